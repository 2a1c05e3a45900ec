/- bytes, pieces that came in as arguments -/
import Derived.Test.YtmpjjkfbojhfoaaKit
import Derived.Deep.Matrix
import Derived.Deep.Slices
import Derived.WideShapes
import Derived.ChangeSlices
import Derived.SizedLaws
namespace Go.Proofs.Ytmpjjkfbojhfoaa
open Go.RowKit
theorem bytes_of_cells {w : World} {x : Addr} {len cap : Nat} {zs : List Int} (h1 : len ≤ cap) (h2 : cap ≤ maxLen) (h3 : zs.length = cap)
    (h4 : ∀ i, i < zs.length → w.cell? (x.add i) = some (.int .u8 (zs.getD i 0))) (h5 : ∀ n ∈ zs, (Lit.int .u8 n).wf = true) : ∃ l, IsBytes w (some x) len cap l := by
  refine ⟨(zs.take len).map fun n => UInt8.ofNat n.toNat, by simp; omega, h1, h2, fun hne => ?_, fun h => by cases h⟩
  have hpos : 0 < len := by
    rcases Nat.eq_zero_or_pos len with h | h
    · subst h; simp at hne
    · exact h
  obtain ⟨b, off, spot⟩ := x
  have h0 := h4 0 (by omega)
  have hs : spot = none := by
    cases spot with
    | none => rfl
    | some s =>
      simp only [Addr.add, if_true, World.cell?] at h0
      split at h0 <;> simp at h0
  subst hs
  refine ⟨b, off, rfl, fun i hi => ?_⟩
  have hi2 : i < len := by simp at hi; omega
  have hc := h4 i (by omega)
  have e : (⟨b, off, none⟩ : Addr).add i = ⟨b, off + i, none⟩ := by unfold Addr.add; split <;> simp_all
  rw [e] at hc
  rw [hc]
  have hz : zs.getD i 0 ∈ zs := by
    rw [List.getD_eq_getElem?_getD, List.getElem?_eq_getElem (by omega : i < zs.length)]
    exact List.getElem_mem _
  have hw := h5 _ hz
  simp only [Lit.wf, decide_eq_true_eq, Bool.and_eq_true] at hw
  have hg : ((zs.take len).map fun n => UInt8.ofNat n.toNat).getD i 0 = UInt8.ofNat (zs.getD i 0).toNat := by
    simp [List.getD, hi2, List.getElem?_eq_getElem (by omega : i < zs.length)]
  rw [hg]
  have hb : 0 ≤ zs.getD i 0 ∧ zs.getD i 0 ≤ 255 := by
    exact hw
  congr 1
  rw [UInt8.toNat_ofNat']
  congr 1
  omega
theorem wf_i64 {a : Int} (h : (Lit.int .i64 a).wf = true) : -9223372036854775808 ≤ a ∧ a ≤ 9223372036854775807 := by
  simp only [Lit.wf, decide_eq_true_eq, Bool.and_eq_true] at h
  exact h
section
variable {H : Type} {enc : TypeId × Value → H} {w : World} {base : Nat} {held : Bool}
theorem bytes_in {fuel : Nat} {ao : Option Addr} {len cap : Nat} {x : DataW H × List MemPlace} (h : DataW.trod enc Try.prog w base (fun _ => true) held fuel 23 [.slice ao len cap] = some x) : ∃ L, IsBytes w ao len cap L := by
  rcases Go.ChangeShapes.open_ints Try.underlying23 Try.underlying5 (by kernel_rfl) h with ⟨hcs, _⟩ | ⟨a, l, c, zs, hcs, _, hl, hm, hz, _, hcell, hwz⟩
  · simp at hcs
    obtain ⟨rfl, rfl, rfl⟩ := hcs
    exact ⟨[], IsBytes.nil w⟩
  · simp at hcs
    obtain ⟨rfl, rfl, rfl⟩ := hcs
    exact bytes_of_cells hl hm (by simpa using hz) hcell hwz
theorem Try.bytesByte : Try.prog.bytesOf 5 = 1 := by kernel_rfl
theorem bytes_in_sized {fuel : Nat} {ao : Option Addr} {len cap : Nat} {d : DataW H} {pl : List MemPlace} (h : DataW.trod enc Try.prog w base (fun _ => true) held fuel 23 [.slice ao len cap] = some (d, pl))
    (hz : ∀ n ∈ d.weights Try.prog 23, n ≤ reachBytes) : ∃ L, IsBytes w ao len cap L ∧ len ≤ 140737488355328 := by
  obtain ⟨L, hL⟩ := bytes_in h
  refine ⟨L, hL, ?_⟩
  rcases Go.ChangeShapes.open_ints Try.underlying23 Try.underlying5 (by kernel_rfl) h with ⟨hcs, _⟩ | ⟨a, l, c, zs, hcs, _, hl, hm, hzl, hx, hcell, hwz⟩
  · simp at hcs
    omega
  · simp at hcs
    obtain ⟨rfl, rfl, rfl⟩ := hcs
    injection hx with hx _
    subst hx
    have hw := hz zs.length (by
      simp only [DataW.weights, Try.underlying23, Try.bytesByte, Nat.mul_one]
      rw [show ((Go.ChangeShapes.lits (H := H) .u8 (zs.take len)).length + (Go.ChangeShapes.lits (H := H) .u8 (zs.drop len)).length) = zs.length by simp [Go.ChangeShapes.lits]; omega]
      exact List.mem_cons_self)
    have h47 : reachBytes < 2 ^ 47 := reachBytes_lt
    have : zs.length = cap := by simpa using hzl
    omega
end
theorem Try.cellsPiece : Try.prog.cellsOf 26 = 2 := by kernel_rfl
theorem Try.cellsB : Try.prog.cellsOf 23 = 1 := by kernel_rfl
theorem Try.cellsBool : Try.prog.cellsOf 4 = 1 := by kernel_rfl
/-- a piece: bytes, or a Sync. -/
abbrev PieceV := List UInt8 × Bool
def PieceAt (w : World) (c0 c1 : Value) (x : PieceV) : Prop := (∃ a n c, c0 = .slice a n c ∧ IsBytes w a n c x.1 ∧ n ≤ 140737488355328) ∧ c1 = .bool x.2
/-- a slice of pieces. -/
def IsPieces (w : World) (ao : Option Addr) (n cap : Nat) (X : List PieceV) : Prop :=
  X.length = n ∧ n ≤ cap ∧ cap ≤ maxLen ∧ ∀ i, i < n → ∃ b off c0 c1, ao = some ⟨b, off, none⟩ ∧ w.cell? ⟨b, off + i * 2, none⟩ = some c0 ∧ w.cell? ⟨b, off + i * 2 + 1, none⟩ = some c1 ∧ PieceAt w c0 c1 (X.getD i ([], false))
theorem IsPieces.later {w w' : World} {ao : Option Addr} {n cap : Nat} {X : List PieceV} (h : IsPieces w ao n cap X) (hb : Below w.heap.size w w') : IsPieces w' ao n cap X := by
  obtain ⟨h1, h2, h3, h4⟩ := h
  refine ⟨h1, h2, h3, fun i hi => ?_⟩
  obtain ⟨b, off, c0, c1, e, g0, g1, ⟨a, m, c, e2, hs, hm⟩, hb2⟩ := h4 i hi
  exact ⟨b, off, c0, c1, e, (hb.cell (block_lt_of_cell g0)).trans g0, (hb.cell (block_lt_of_cell g1)).trans g1, ⟨a, m, c, e2, hs.later hb, hm⟩, hb2⟩
section
variable {H : Type} {enc : TypeId × Value → H} {w : World} {base : Nat} {held : Bool}
set_option maxRecDepth 100000 in
theorem piece_cells {fuel : Nat} {cs : List Value} {d : DataW H} {pl : List MemPlace} (h : DataW.trod enc Try.prog w base (fun _ => true) held fuel 26 cs = some (d, pl)) (hz : ∀ n ∈ d.weights Try.prog 26, n ≤ reachBytes) :
    ∃ c0 c1 x, cs = [c0, c1] ∧ PieceAt w c0 c1 x := by
  obtain ⟨xs, n, _, hx, hl, hxs, hf⟩ := DataW.trod_struct Try.underlying26 h
  rw [Try.cellsPiece] at hl
  have hx3 : xs.length = 2 := hxs
  obtain ⟨v0, v1, rfl⟩ : ∃ v0 v1, cs = [v0, v1] := by
    match cs, hl with
    | [a, b], _ => exact ⟨a, b, rfl⟩
  obtain ⟨x0, x1, rfl⟩ : ∃ x0 x1, xs = [x0, x1] := by
    match xs, hx3 with
    | [a, b], _ => exact ⟨a, b, rfl⟩
  have f0 : DataW.trod enc Try.prog w base (fun _ => true) held n 23 (([v0, v1].drop 0).take (Try.prog.cellsOf 23)) = some x0 := hf 0 _ rfl
  have f1 : DataW.trod enc Try.prog w base (fun _ => true) held n 4 (([v0, v1].drop 1).take (Try.prog.cellsOf 4)) = some x1 := hf 1 _ rfl
  rw [Try.cellsB] at f0
  rw [Try.cellsBool] at f1
  obtain ⟨z1, e1, _⟩ := DataW.trod_bool Try.underlying4 f1
  have g1 : [v1] = [Value.bool z1] := e1
  cases g1
  have f3 : DataW.trod enc Try.prog w base (fun _ => true) held n 23 [v0] = some x0 := f0
  obtain ⟨d0, p0⟩ := x0
  have hsl : ∃ la ln lc, v0 = .slice la ln lc := by
    rcases Go.Deep.open_slice Try.underlying23 f3 with ⟨hcs, _⟩ | ⟨a, l, c, m, n, D, Pl, hcs, _⟩
    · cases hcs; exact ⟨_, _, _, rfl⟩
    · cases hcs; exact ⟨_, _, _, rfl⟩
  obtain ⟨la, ln, lc, rfl⟩ := hsl
  injection hx with hx _
  subst hx
  obtain ⟨L, hL, hLb⟩ := bytes_in_sized f3 (fun k hk => hz k (by
    simp only [DataW.weights, Try.underlying26, List.map_cons]
    exact DataW.weights_mem_each (j := 0) rfl rfl k hk))
  exact ⟨_, _, ⟨L, z1⟩, rfl, ⟨la, ln, lc, rfl, hL, hLb⟩, rfl⟩
/-- n is among a piece's weights. -/
def weightsPiece (d : DataW H) (n : Nat) : Prop := n ∈ d.weights Try.prog 26
theorem weightsAll_piece {d : DataW H} {n : Nat} : ∀ {l : List (DataW H)}, d ∈ l → weightsPiece d n → n ∈ DataW.weightsAll Try.prog 26 l
  | x :: l, h, hm => by
    simp only [DataW.weightsAll, List.mem_append]
    rcases List.mem_cons.1 h with rfl | h
    · exact .inl hm
    · exact .inr (weightsAll_piece h hm)
theorem pieces_in_sized {fuel : Nat} {ao : Option Addr} {len cap : Nat} {d : DataW H} {pl : List MemPlace} (h : DataW.trod enc Try.prog w base (fun _ => true) held fuel 22 [.slice ao len cap] = some (d, pl))
    (hz : ∀ n ∈ d.weights Try.prog 22, n ≤ reachBytes) : ∃ X, IsPieces w ao len cap X := by
  rcases Go.Deep.open_slice Try.underlying22 h with ⟨hcs, _⟩ | ⟨a, l, c, m, n, D, Pl, hcs, _, hl, hm, hmm, hx0, hx⟩
  · simp at hcs
    obtain ⟨rfl, rfl, rfl⟩ := hcs
    exact ⟨[], rfl, Nat.le_refl _, by unfold maxLen; omega, fun i h => absurd h (by omega)⟩
  · simp at hcs
    obtain ⟨rfl, rfl, rfl⟩ := hcs
    rw [Try.cellsPiece] at hx
    have hlm : len ≤ m := by rw [hmm]; split <;> omega
    injection hx0 with hx0 _
    subst hx0
    have hsp : 0 < len → a.spot = none := fun h0 => by
      obtain ⟨cs', h1, _⟩ := hx 0 (by omega)
      obtain ⟨_, hl3, hcell⟩ := World.cells?_some h1
      have g0 := hcell 0 (by omega)
      rw [List.getElem?_eq_getElem (by omega)] at g0
      obtain ⟨b, off, spot⟩ := a
      cases spot with
      | none => rfl
      | some s =>
        exfalso
        simp only [Addr.add, World.cell?] at g0
        split at g0
        · simp at g0
        · cases g0
    have each : ∀ i, ∃ x : PieceV, i < len → ∃ b off c0 c1, (some a : Option Addr) = some ⟨b, off, none⟩ ∧ w.cell? ⟨b, off + i * 2, none⟩ = some c0 ∧ w.cell? ⟨b, off + i * 2 + 1, none⟩ = some c1 ∧ PieceAt w c0 c1 x := by
      intro i
      by_cases hi : i < len
      · obtain ⟨cs', h1, h2⟩ := hx i (by omega)
        obtain ⟨c0, c1, x, rfl, hX⟩ := piece_cells h2 (fun k hk => hz k (by
          simp only [DataW.weights, Try.underlying22]
          refine List.mem_cons_of_mem _ (List.mem_append_left _ ?_)
          exact weightsAll_piece (List.mem_map.2 ⟨i, List.mem_range.2 hi, rfl⟩) hk))
        obtain ⟨_, _, hcell⟩ := World.cells?_some h1
        have g0 : w.cell? ((a.add (i * 2)).add 0) = some c0 := hcell 0 (by omega)
        have g1 : w.cell? ((a.add (i * 2)).add 1) = some c1 := hcell 1 (by omega)
        have hs := hsp (by omega)
        obtain ⟨b, off, spot⟩ := a
        dsimp only at hs
        subst hs
        have e : ∀ j, ((⟨b, off, none⟩ : Addr).add (i * 2)).add j = ⟨b, off + i * 2 + j, none⟩ := fun j => by
          have e1 : (⟨b, off, none⟩ : Addr).add (i * 2) = ⟨b, off + i * 2, none⟩ := by unfold Addr.add; split <;> simp_all
          rw [e1]; unfold Addr.add; split <;> simp_all
        rw [e] at g0 g1
        exact ⟨x, fun _ => ⟨b, off, c0, c1, rfl, g0, g1, hX⟩⟩
      · exact ⟨([], false), fun h => absurd h hi⟩
    obtain ⟨R, hR⟩ := Classical.axiomOfChoice each
    refine ⟨(List.range len).map R, by simp, hl, hm, fun i hi => ?_⟩
    have e : ((List.range len).map R).getD i ([], false) = R i := by simp [List.getD, hi]
    rw [e]
    exact hR i hi
end
end Go.Proofs.Ytmpjjkfbojhfoaa

/- calls that came in: layer 27's Act -/
namespace Go.Proofs.Ytmpjjkfbojhfoaa
open Go.RowKit
/-- an address that bears a cell has no spot. -/
theorem spot_of_cell {w : World} {a : Addr} {v : Value} (h : w.cell? (a.add 0) = some v) : a.spot = none := by
  obtain ⟨b, off, spot⟩ := a
  cases spot with
  | none => rfl
  | some s =>
    exfalso
    simp only [Addr.add, World.cell?] at h
    split at h
    · simp at h
    · cases h
theorem add_add (b off i j : Nat) : ((⟨b, off, none⟩ : Addr).add i).add j = ⟨b, off + i + j, none⟩ := by
  have e1 : (⟨b, off, none⟩ : Addr).add i = ⟨b, off + i, none⟩ := by unfold Addr.add; split <;> simp_all
  rw [e1]; unfold Addr.add; split <;> simp_all
theorem Try.cellsAct : Try.prog.cellsOf 60 = 6 := by kernel_rfl
theorem Try.cellsInt : Try.prog.cellsOf 3 = 1 := by kernel_rfl
theorem Try.cellsStr : Try.prog.cellsOf 9 = 1 := by kernel_rfl
theorem Try.cellsInts : Try.prog.cellsOf 35 = 1 := by kernel_rfl
/-- whole numbers in a slice. -/
def IsInts (w : World) (ao : Option Addr) (n cap : Nat) (L : List Int) : Prop :=
  L.length = n ∧ n ≤ cap ∧ cap ≤ maxLen ∧ (0 < n → ∃ b off, ao = some ⟨b, off, none⟩ ∧ ∀ i, i < n → w.cell? ⟨b, off + i, none⟩ = some (.int .i64 (L.getD i 0))) ∧ (ao = none → n = 0 ∧ cap = 0)
theorem IsInts.later {w w' : World} {ao : Option Addr} {n cap : Nat} {L : List Int} (h : IsInts w ao n cap L) (hb : Below w.heap.size w w') : IsInts w' ao n cap L := by
  obtain ⟨h1, h2, h3, h4, h5⟩ := h
  refine ⟨h1, h2, h3, fun hn => ?_, h5⟩
  obtain ⟨b, off, rfl, hc⟩ := h4 hn
  exact ⟨b, off, rfl, fun i hi => (hb.cell (block_lt_of_cell (hc i hi))).trans (hc i hi)⟩
/-- a call. -/
structure ActV where
  kind : Int
  size : Int
  nm : ByteArray
  to : ByteArray
  ba : Option Addr
  bn : Nat
  bc : Nat
  B : List UInt8
  ka : Option Addr
  kn : Nat
  kc : Nat
  K : List Int
/-- a call's six cells. -/
def ActV.row (x : ActV) : Array Value := #[.int .i64 x.kind, .int .i64 x.size, .string x.nm, .string x.to, .slice x.ba x.bn x.bc, .slice x.ka x.kn x.kc]
def In64 (z : Int) : Prop := -9223372036854775808 ≤ z ∧ z ≤ 9223372036854775807
/-- what a call holds. -/
structure ActOk (w : World) (x : ActV) : Prop where
  kind : In64 x.kind
  size : In64 x.size
  nm : x.nm.size ≤ maxLen
  to : x.to.size ≤ maxLen
  B : IsBytes w x.ba x.bn x.bc x.B
  K : IsInts w x.ka x.kn x.kc x.K
  K64 : ∀ z ∈ x.K, In64 z
theorem ActOk.later {w w' : World} {x : ActV} (h : ActOk w x) (hb : Below w.heap.size w w') : ActOk w' x := ⟨h.kind, h.size, h.nm, h.to, h.B.later hb, h.K.later hb, h.K64⟩
def act0 : ActV := ⟨0, 0, ByteArray.empty, ByteArray.empty, none, 0, 0, [], none, 0, 0, []⟩
/-- a slice of calls. -/
def IsActs (w : World) (ao : Option Addr) (n cap : Nat) (X : List ActV) : Prop :=
  X.length = n ∧ n ≤ cap ∧ cap ≤ maxLen ∧ (0 < n → ∃ b off, ao = some ⟨b, off, none⟩ ∧ ∀ i, i < n → (∀ j, j < 6 → w.cell? ⟨b, off + i * 6 + j, none⟩ = (X.getD i act0).row[j]?) ∧ ActOk w (X.getD i act0))
/-- calls that came in: each list of bytes within the form's reach. -/
def IsActsZ (w : World) (ao : Option Addr) (n cap : Nat) (X : List ActV) : Prop := IsActs w ao n cap X ∧ ∀ i, i < n → (X.getD i act0).bn ≤ 140737488355328
theorem IsActs.later {w w' : World} {ao : Option Addr} {n cap : Nat} {X : List ActV} (h : IsActs w ao n cap X) (hb : Below w.heap.size w w') : IsActs w' ao n cap X := by
  obtain ⟨h1, h2, h3, h4⟩ := h
  refine ⟨h1, h2, h3, fun hn => ?_⟩
  obtain ⟨b, off, e, hc⟩ := h4 hn
  refine ⟨b, off, e, fun i hi => ?_⟩
  obtain ⟨q1, q2⟩ := hc i hi
  refine ⟨fun j hj => ?_, q2.later hb⟩
  have h0 := q1 j hj
  have hs : (X.getD i act0).row[j]? = some ((X.getD i act0).row[j]'(by show j < 6; exact hj)) := Array.getElem?_eq_getElem _
  rw [hs] at h0 ⊢
  exact (hb.cell (block_lt_of_cell h0)).trans h0
section
variable {H : Type} {enc : TypeId × Value → H} {w : World} {base : Nat} {held : Bool}
/-- a row's elements, one by one: a slice whose elements are of k cells. -/
theorem rows_of {k len m : Nat} {a : Addr} {α : Type} (d : α) (Q : List Value → α → Prop) (hk : 0 < k) (hl : len ≤ m) (h : ∀ i, i < m → ∃ cs', w.cells? base (a.add (i * k)) k = some cs' ∧ ∃ x, Q cs' x) :
    ∃ X : List α, X.length = len ∧ (0 < len → ∃ b off, a = ⟨b, off, none⟩ ∧ ∀ i, i < len → ∃ cs : List Value, cs.length = k ∧ (∀ j, j < k → w.cell? ⟨b, off + i * k + j, none⟩ = cs[j]?) ∧ Q cs (X.getD i d)) := by
  have each : ∀ i, ∃ x : α, i < len → ∃ cs, w.cells? base (a.add (i * k)) k = some cs ∧ Q cs x := by
    intro i
    by_cases hi : i < len
    · obtain ⟨cs, h1, x, h2⟩ := h i (by omega)
      exact ⟨x, fun _ => ⟨cs, h1, h2⟩⟩
    · exact ⟨d, fun h => absurd h hi⟩
  obtain ⟨R, hR⟩ := Classical.axiomOfChoice each
  refine ⟨(List.range len).map R, by simp, fun hpos => ?_⟩
  obtain ⟨b, off, spot⟩ := a
  have hs : spot = none := by
    obtain ⟨cs, h1, _⟩ := hR 0 hpos
    obtain ⟨_, hl0, hc⟩ := World.cells?_some h1
    have h0 := hc 0 hk
    rw [List.getElem?_eq_getElem (by omega)] at h0
    rw [Nat.zero_mul] at h0
    have hz : (⟨b, off, spot⟩ : Addr).add 0 = ⟨b, off, spot⟩ := rfl
    rw [hz] at h0
    exact spot_of_cell h0
  subst hs
  refine ⟨b, off, rfl, fun i hi => ?_⟩
  obtain ⟨cs, h1, h2⟩ := hR i hi
  obtain ⟨_, hl0, hc⟩ := World.cells?_some h1
  refine ⟨cs, hl0, fun j hj => by rw [← hc j hj, add_add], ?_⟩
  have : ((List.range len).map R).getD i d = R i := by simp [List.getD, hi]
  rw [this]
  exact h2
theorem ints_in {fuel : Nat} {a : Option Addr} {n cap : Nat} {x : DataW H × List MemPlace} (h : DataW.trod enc Try.prog w base (fun _ => true) held fuel 35 [.slice a n cap] = some x) : ∃ L, IsInts w a n cap L ∧ ∀ z ∈ L, In64 z := by
  rcases Go.Deep.open_slice Try.underlying35 h with ⟨e, _⟩ | ⟨a', l, c, m, n', D, Pl, e, _, hl, hm, hmm, _, hx⟩
  · cases e
    exact ⟨[], ⟨rfl, Nat.le_refl _, by unfold maxLen; omega, fun h => absurd h (by omega), fun _ => ⟨rfl, rfl⟩⟩, fun x hx => by cases hx⟩
  · cases e
    rw [Try.cellsInt] at hx
    obtain ⟨P, hP, hc⟩ := rows_of (k := 1) (m := m) (len := n) (0 : Int) (fun cs p => cs = [.int .i64 p] ∧ (-9223372036854775808 ≤ p ∧ p ≤ 9223372036854775807)) (by omega) (by rw [hmm]; split <;> omega) (fun i hi => by
      obtain ⟨cs', h1, h2⟩ := hx i hi
      obtain ⟨z, e1, _, hwf⟩ := DataW.trod_int Try.underlying3 h2
      exact ⟨cs', h1, z, e1, wf_i64 hwf⟩)
    refine ⟨P, ⟨hP, hl, hm, fun hpos => ?_, fun h => by cases h⟩, fun x hx => ?_⟩
    · obtain ⟨b, off, rfl, hcc⟩ := hc hpos
      refine ⟨b, off, rfl, fun i hi => ?_⟩
      obtain ⟨cs, _, hj, rfl, _⟩ := hcc i hi
      simpa using hj 0 (by omega)
    · obtain ⟨i, hi, rfl⟩ := List.getElem_of_mem hx
      obtain ⟨b, off, rfl, hcc⟩ := hc (by omega)
      obtain ⟨cs, _, _, _, hw⟩ := hcc i (by omega)
      rw [List.getD_eq_getElem?_getD, List.getElem?_eq_getElem hi] at hw
      exact hw
set_option maxRecDepth 100000 in
theorem act_cells {fuel : Nat} {cs : List Value} {d : DataW H} {pl : List MemPlace} (h : DataW.trod enc Try.prog w base (fun _ => true) held fuel 60 cs = some (d, pl)) :
    ∃ x : ActV, cs = x.row.toList ∧ ActOk w x ∧ ((∀ n ∈ d.weights Try.prog 60, n ≤ reachBytes) → x.bn ≤ 140737488355328) := by
  obtain ⟨xs, n, _, hx, hl, hxs, hf⟩ := DataW.trod_struct Try.underlying60 h
  rw [Try.cellsAct] at hl
  have hx6 : xs.length = 6 := hxs
  obtain ⟨v0, v1, v2, v3, v4, v5, rfl⟩ : ∃ v0 v1 v2 v3 v4 v5, cs = [v0, v1, v2, v3, v4, v5] := by
    match cs, hl with
    | [a, b, c, d, e, f], _ => exact ⟨a, b, c, d, e, f, rfl⟩
  obtain ⟨x0, x1, x2, x3, x4, x5, rfl⟩ : ∃ x0 x1 x2 x3 x4 x5, xs = [x0, x1, x2, x3, x4, x5] := by
    match xs, hx6 with
    | [a, b, c, d, e, f], _ => exact ⟨a, b, c, d, e, f, rfl⟩
  have f0 : DataW.trod enc Try.prog w base (fun _ => true) held n 3 (([v0, v1, v2, v3, v4, v5].drop 0).take (Try.prog.cellsOf 3)) = some x0 := hf 0 _ rfl
  have f1 : DataW.trod enc Try.prog w base (fun _ => true) held n 3 (([v0, v1, v2, v3, v4, v5].drop 1).take (Try.prog.cellsOf 3)) = some x1 := hf 1 _ rfl
  have f2 : DataW.trod enc Try.prog w base (fun _ => true) held n 9 (([v0, v1, v2, v3, v4, v5].drop 2).take (Try.prog.cellsOf 9)) = some x2 := hf 2 _ rfl
  have f3 : DataW.trod enc Try.prog w base (fun _ => true) held n 9 (([v0, v1, v2, v3, v4, v5].drop 3).take (Try.prog.cellsOf 9)) = some x3 := hf 3 _ rfl
  have f4 : DataW.trod enc Try.prog w base (fun _ => true) held n 23 (([v0, v1, v2, v3, v4, v5].drop 4).take (Try.prog.cellsOf 23)) = some x4 := hf 4 _ rfl
  have f5 : DataW.trod enc Try.prog w base (fun _ => true) held n 35 (([v0, v1, v2, v3, v4, v5].drop 5).take (Try.prog.cellsOf 35)) = some x5 := hf 5 _ rfl
  rw [Try.cellsInt] at f0 f1
  rw [Try.cellsStr] at f2 f3
  rw [Try.cellsB] at f4
  rw [Try.cellsInts] at f5
  obtain ⟨z0, e0, _, q0⟩ := DataW.trod_int Try.underlying3 f0
  obtain ⟨z1, e1, _, q1⟩ := DataW.trod_int Try.underlying3 f1
  obtain ⟨s2, e2, _, q2⟩ := DataW.trod_string Try.underlying9 f2
  obtain ⟨s3, e3, _, q3⟩ := DataW.trod_string Try.underlying9 f3
  have g0 : [v0] = [Value.int .i64 z0] := e0
  have g1 : [v1] = [Value.int .i64 z1] := e1
  have g2 : [v2] = [Value.string s2] := e2
  have g3 : [v3] = [Value.string s3] := e3
  cases g0; cases g1; cases g2; cases g3
  have h4 : DataW.trod enc Try.prog w base (fun _ => true) held n 23 [v4] = some x4 := f4
  have h5 : DataW.trod enc Try.prog w base (fun _ => true) held n 35 [v5] = some x5 := f5
  have hs4 : ∃ a n c, v4 = .slice a n c := by
    rcases Go.Deep.open_slice Try.underlying23 h4 with ⟨hcs, _⟩ | ⟨a, l, c, m, n, D, Pl, hcs, _⟩
    · cases hcs; exact ⟨_, _, _, rfl⟩
    · cases hcs; exact ⟨_, _, _, rfl⟩
  have hs5 : ∃ a n c, v5 = .slice a n c := by
    rcases Go.Deep.open_slice Try.underlying35 h5 with ⟨hcs, _⟩ | ⟨a, l, c, m, n, D, Pl, hcs, _⟩
    · cases hcs; exact ⟨_, _, _, rfl⟩
    · cases hcs; exact ⟨_, _, _, rfl⟩
  obtain ⟨ba, bn, bc, rfl⟩ := hs4
  obtain ⟨ka, kn, kc, rfl⟩ := hs5
  obtain ⟨B, hB⟩ := bytes_in h4
  obtain ⟨K, hK, hK6⟩ := ints_in h5
  refine ⟨⟨z0, z1, s2, s3, ba, bn, bc, B, ka, kn, kc, K⟩, rfl, ⟨wf_i64 q0, wf_i64 q1, q2, q3, hB, hK, hK6⟩, fun hz => ?_⟩
  obtain ⟨d4, p4⟩ := x4
  injection hx with hx _
  subst hx
  obtain ⟨_, _, hb⟩ := bytes_in_sized h4 (fun k hk => hz k (by
    simp only [DataW.weights, Try.underlying60, List.map_cons]
    exact DataW.weights_mem_each (j := 4) rfl rfl k hk))
  exact hb
set_option maxRecDepth 100000 in
/-- a call that came in by value. -/
theorem act_of_val {r : Reach} {b2 fuel : Nat} {v : Value} {x : DataW H × List MemPlace} (hv : Value.okWide Try.prog w r b2 60 v) (h : DataW.trod enc Try.prog w base (fun _ => true) held fuel 60 v.cells.toList = some x) : ∃ c : ActV, v = .agg c.row ∧ ActOk w c := by
  obtain ⟨cs, rfl, _⟩ := Go.WideShapes.okWide_struct Try.underlying60 hv
  obtain ⟨d, p⟩ := x
  obtain ⟨c, hc, hok, _⟩ := act_cells h
  refine ⟨c, ?_, hok⟩
  have : cs.toList = c.row.toList := hc
  rw [Array.toList_inj.1 this]
/-- n is among a call's weights. -/
def weightsAct (d : DataW H) (n : Nat) : Prop := n ∈ d.weights Try.prog 60
theorem weightsAll_act {d : DataW H} {n : Nat} : ∀ {l : List (DataW H)}, d ∈ l → weightsAct d n → n ∈ DataW.weightsAll Try.prog 60 l
  | x :: l, h, hm => by
    simp only [DataW.weightsAll, List.mem_append]
    rcases List.mem_cons.1 h with rfl | h
    · exact .inl hm
    · exact .inr (weightsAll_act h hm)
set_option maxRecDepth 100000 in
theorem acts_in_sized {fuel : Nat} {ao : Option Addr} {len cap : Nat} {d : DataW H} {pl : List MemPlace} (h : DataW.trod enc Try.prog w base (fun _ => true) held fuel 56 [.slice ao len cap] = some (d, pl))
    (hz : ∀ n ∈ d.weights Try.prog 56, n ≤ reachBytes) : ∃ X, IsActsZ w ao len cap X := by
  rcases Go.Deep.open_slice Try.underlying56 h with ⟨hcs, _⟩ | ⟨a, l, c, m, n, D, Pl, hcs, _, hl, hm, hmm, hx0, hx⟩
  · simp at hcs
    obtain ⟨rfl, rfl, rfl⟩ := hcs
    exact ⟨[], ⟨rfl, Nat.le_refl _, by unfold maxLen; omega, fun h => absurd h (by omega)⟩, fun i hi => absurd hi (by omega)⟩
  · simp at hcs
    obtain ⟨rfl, rfl, rfl⟩ := hcs
    rw [Try.cellsAct] at hx
    have hlm : len ≤ m := by rw [hmm]; split <;> omega
    injection hx0 with hx0 _
    subst hx0
    obtain ⟨P, hP, hc⟩ := rows_of (k := 6) (m := len) (len := len) act0 (fun cs x => cs = x.row.toList ∧ ActOk w x ∧ x.bn ≤ 140737488355328) (by omega) (Nat.le_refl _) (fun i hi => by
      obtain ⟨cs', h1, h2⟩ := hx i (by omega)
      obtain ⟨x, e1, hok, hbn⟩ := act_cells h2
      refine ⟨cs', h1, x, e1, hok, hbn (fun k hk => hz k (by
        simp only [DataW.weights, Try.underlying56]
        refine List.mem_cons_of_mem _ (List.mem_append_left _ ?_)
        exact weightsAll_act (List.mem_map.2 ⟨i, List.mem_range.2 hi, rfl⟩) hk))⟩)
    refine ⟨P, ⟨hP, hl, hm, fun hpos => ?_⟩, fun i hi => ?_⟩
    · obtain ⟨b, off, rfl, hcc⟩ := hc hpos
      refine ⟨b, off, rfl, fun i hi => ?_⟩
      obtain ⟨cs, _, hj, rfl, q, _⟩ := hcc i hi
      exact ⟨fun j hj6 => by rw [hj j hj6, Array.getElem?_toList], q⟩
    · obtain ⟨b, off, _, hcc⟩ := hc (by omega)
      obtain ⟨cs, _, hj, _, _, q⟩ := hcc i hi
      exact q
end
end Go.Proofs.Ytmpjjkfbojhfoaa
