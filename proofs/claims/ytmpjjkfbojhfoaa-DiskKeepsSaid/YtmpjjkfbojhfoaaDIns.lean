/- bytes, pieces that came in as arguments -/
import Derived.Test.YtmpjjkfbojhfoaaKit
import Derived.Deep.Matrix
import Derived.Deep.Slices
import Derived.WideShapes
import Derived.ChangeSlices
import Derived.SizedLaws
namespace Go.Proofs.Ytmpjjkfbojhfoaa
open Go.RowKit
theorem bytes_of_cells {w : World} {x : Addr} {len cap : Nat} {zs : List Int} (h1 : len ≤ cap) (h2 : cap ≤ maxLen) (h3 : zs.length = cap)
    (h4 : ∀ i, i < zs.length → w.cell? (x.add i) = some (.int .u8 (zs.getD i 0))) (h5 : ∀ n ∈ zs, (Lit.int .u8 n).wf = true) : ∃ l, IsBytes w (some x) len cap l := by
  refine ⟨(zs.take len).map fun n => UInt8.ofNat n.toNat, by simp; omega, h1, h2, fun hne => ?_, fun h => by cases h⟩
  have hpos : 0 < len := by
    rcases Nat.eq_zero_or_pos len with h | h
    · subst h; simp at hne
    · exact h
  obtain ⟨b, off, spot⟩ := x
  have h0 := h4 0 (by omega)
  have hs : spot = none := by
    cases spot with
    | none => rfl
    | some s =>
      simp only [Addr.add, if_true, World.cell?] at h0
      split at h0 <;> simp at h0
  subst hs
  refine ⟨b, off, rfl, fun i hi => ?_⟩
  have hi2 : i < len := by simp at hi; omega
  have hc := h4 i (by omega)
  have e : (⟨b, off, none⟩ : Addr).add i = ⟨b, off + i, none⟩ := by unfold Addr.add; split <;> simp_all
  rw [e] at hc
  rw [hc]
  have hz : zs.getD i 0 ∈ zs := by
    rw [List.getD_eq_getElem?_getD, List.getElem?_eq_getElem (by omega : i < zs.length)]
    exact List.getElem_mem _
  have hw := h5 _ hz
  simp only [Lit.wf, decide_eq_true_eq, Bool.and_eq_true] at hw
  have hg : ((zs.take len).map fun n => UInt8.ofNat n.toNat).getD i 0 = UInt8.ofNat (zs.getD i 0).toNat := by
    simp [List.getD, hi2, List.getElem?_eq_getElem (by omega : i < zs.length)]
  rw [hg]
  have hb : 0 ≤ zs.getD i 0 ∧ zs.getD i 0 ≤ 255 := by
    exact hw
  congr 1
  rw [UInt8.toNat_ofNat']
  congr 1
  omega
theorem wf_i64 {a : Int} (h : (Lit.int .i64 a).wf = true) : -9223372036854775808 ≤ a ∧ a ≤ 9223372036854775807 := by
  simp only [Lit.wf, decide_eq_true_eq, Bool.and_eq_true] at h
  exact h
section
variable {H : Type} {enc : TypeId × Value → H} {w : World} {base : Nat} {held : Bool}
theorem bytes_in {fuel : Nat} {ao : Option Addr} {len cap : Nat} {x : DataW H × List MemPlace} (h : DataW.trod enc Try.prog w base (fun _ => true) held fuel 23 [.slice ao len cap] = some x) : ∃ L, IsBytes w ao len cap L := by
  rcases Go.ChangeShapes.open_ints Try.underlying23 Try.underlying5 (by kernel_rfl) h with ⟨hcs, _⟩ | ⟨a, l, c, zs, hcs, _, hl, hm, hz, _, hcell, hwz⟩
  · simp at hcs
    obtain ⟨rfl, rfl, rfl⟩ := hcs
    exact ⟨[], IsBytes.nil w⟩
  · simp at hcs
    obtain ⟨rfl, rfl, rfl⟩ := hcs
    exact bytes_of_cells hl hm (by simpa using hz) hcell hwz
theorem Try.bytesByte : Try.prog.bytesOf 5 = 1 := by kernel_rfl
theorem bytes_in_sized {fuel : Nat} {ao : Option Addr} {len cap : Nat} {d : DataW H} {pl : List MemPlace} (h : DataW.trod enc Try.prog w base (fun _ => true) held fuel 23 [.slice ao len cap] = some (d, pl))
    (hz : ∀ n ∈ d.weights Try.prog 23, n ≤ reachBytes) : ∃ L, IsBytes w ao len cap L ∧ len ≤ 140737488355328 := by
  obtain ⟨L, hL⟩ := bytes_in h
  refine ⟨L, hL, ?_⟩
  rcases Go.ChangeShapes.open_ints Try.underlying23 Try.underlying5 (by kernel_rfl) h with ⟨hcs, _⟩ | ⟨a, l, c, zs, hcs, _, hl, hm, hzl, hx, hcell, hwz⟩
  · simp at hcs
    omega
  · simp at hcs
    obtain ⟨rfl, rfl, rfl⟩ := hcs
    injection hx with hx _
    subst hx
    have hw := hz zs.length (by
      simp only [DataW.weights, Try.underlying23, Try.bytesByte, Nat.mul_one]
      rw [show ((Go.ChangeShapes.lits (H := H) .u8 (zs.take len)).length + (Go.ChangeShapes.lits (H := H) .u8 (zs.drop len)).length) = zs.length by simp [Go.ChangeShapes.lits]; omega]
      exact List.mem_cons_self)
    have h47 : reachBytes < 2 ^ 47 := reachBytes_lt
    have : zs.length = cap := by simpa using hzl
    omega
end
theorem Try.cellsPiece : Try.prog.cellsOf 26 = 2 := by kernel_rfl
theorem Try.cellsB : Try.prog.cellsOf 23 = 1 := by kernel_rfl
theorem Try.cellsBool : Try.prog.cellsOf 4 = 1 := by kernel_rfl
/-- a piece: bytes, or a Sync. -/
abbrev PieceV := List UInt8 × Bool
def PieceAt (w : World) (c0 c1 : Value) (x : PieceV) : Prop := (∃ a n c, c0 = .slice a n c ∧ IsBytes w a n c x.1 ∧ n ≤ 140737488355328) ∧ c1 = .bool x.2
/-- a slice of pieces. -/
def IsPieces (w : World) (ao : Option Addr) (n cap : Nat) (X : List PieceV) : Prop :=
  X.length = n ∧ n ≤ cap ∧ cap ≤ maxLen ∧ ∀ i, i < n → ∃ b off c0 c1, ao = some ⟨b, off, none⟩ ∧ w.cell? ⟨b, off + i * 2, none⟩ = some c0 ∧ w.cell? ⟨b, off + i * 2 + 1, none⟩ = some c1 ∧ PieceAt w c0 c1 (X.getD i ([], false))
theorem IsPieces.later {w w' : World} {ao : Option Addr} {n cap : Nat} {X : List PieceV} (h : IsPieces w ao n cap X) (hb : Below w.heap.size w w') : IsPieces w' ao n cap X := by
  obtain ⟨h1, h2, h3, h4⟩ := h
  refine ⟨h1, h2, h3, fun i hi => ?_⟩
  obtain ⟨b, off, c0, c1, e, g0, g1, ⟨a, m, c, e2, hs, hm⟩, hb2⟩ := h4 i hi
  exact ⟨b, off, c0, c1, e, (hb.cell (block_lt_of_cell g0)).trans g0, (hb.cell (block_lt_of_cell g1)).trans g1, ⟨a, m, c, e2, hs.later hb, hm⟩, hb2⟩
section
variable {H : Type} {enc : TypeId × Value → H} {w : World} {base : Nat} {held : Bool}
set_option maxRecDepth 100000 in
theorem piece_cells {fuel : Nat} {cs : List Value} {d : DataW H} {pl : List MemPlace} (h : DataW.trod enc Try.prog w base (fun _ => true) held fuel 26 cs = some (d, pl)) (hz : ∀ n ∈ d.weights Try.prog 26, n ≤ reachBytes) :
    ∃ c0 c1 x, cs = [c0, c1] ∧ PieceAt w c0 c1 x := by
  obtain ⟨xs, n, _, hx, hl, hxs, hf⟩ := DataW.trod_struct Try.underlying26 h
  rw [Try.cellsPiece] at hl
  have hx3 : xs.length = 2 := hxs
  obtain ⟨v0, v1, rfl⟩ : ∃ v0 v1, cs = [v0, v1] := by
    match cs, hl with
    | [a, b], _ => exact ⟨a, b, rfl⟩
  obtain ⟨x0, x1, rfl⟩ : ∃ x0 x1, xs = [x0, x1] := by
    match xs, hx3 with
    | [a, b], _ => exact ⟨a, b, rfl⟩
  have f0 : DataW.trod enc Try.prog w base (fun _ => true) held n 23 (([v0, v1].drop 0).take (Try.prog.cellsOf 23)) = some x0 := hf 0 _ rfl
  have f1 : DataW.trod enc Try.prog w base (fun _ => true) held n 4 (([v0, v1].drop 1).take (Try.prog.cellsOf 4)) = some x1 := hf 1 _ rfl
  rw [Try.cellsB] at f0
  rw [Try.cellsBool] at f1
  obtain ⟨z1, e1, _⟩ := DataW.trod_bool Try.underlying4 f1
  have g1 : [v1] = [Value.bool z1] := e1
  cases g1
  have f3 : DataW.trod enc Try.prog w base (fun _ => true) held n 23 [v0] = some x0 := f0
  obtain ⟨d0, p0⟩ := x0
  have hsl : ∃ la ln lc, v0 = .slice la ln lc := by
    rcases Go.Deep.open_slice Try.underlying23 f3 with ⟨hcs, _⟩ | ⟨a, l, c, m, n, D, Pl, hcs, _⟩
    · cases hcs; exact ⟨_, _, _, rfl⟩
    · cases hcs; exact ⟨_, _, _, rfl⟩
  obtain ⟨la, ln, lc, rfl⟩ := hsl
  injection hx with hx _
  subst hx
  obtain ⟨L, hL, hLb⟩ := bytes_in_sized f3 (fun k hk => hz k (by
    simp only [DataW.weights, Try.underlying26, List.map_cons]
    exact DataW.weights_mem_each (j := 0) rfl rfl k hk))
  exact ⟨_, _, ⟨L, z1⟩, rfl, ⟨la, ln, lc, rfl, hL, hLb⟩, rfl⟩
/-- n is among a piece's weights. -/
def weightsPiece (d : DataW H) (n : Nat) : Prop := n ∈ d.weights Try.prog 26
theorem weightsAll_piece {d : DataW H} {n : Nat} : ∀ {l : List (DataW H)}, d ∈ l → weightsPiece d n → n ∈ DataW.weightsAll Try.prog 26 l
  | x :: l, h, hm => by
    simp only [DataW.weightsAll, List.mem_append]
    rcases List.mem_cons.1 h with rfl | h
    · exact .inl hm
    · exact .inr (weightsAll_piece h hm)
theorem pieces_in_sized {fuel : Nat} {ao : Option Addr} {len cap : Nat} {d : DataW H} {pl : List MemPlace} (h : DataW.trod enc Try.prog w base (fun _ => true) held fuel 22 [.slice ao len cap] = some (d, pl))
    (hz : ∀ n ∈ d.weights Try.prog 22, n ≤ reachBytes) : ∃ X, IsPieces w ao len cap X := by
  rcases Go.Deep.open_slice Try.underlying22 h with ⟨hcs, _⟩ | ⟨a, l, c, m, n, D, Pl, hcs, _, hl, hm, hmm, hx0, hx⟩
  · simp at hcs
    obtain ⟨rfl, rfl, rfl⟩ := hcs
    exact ⟨[], rfl, Nat.le_refl _, by unfold maxLen; omega, fun i h => absurd h (by omega)⟩
  · simp at hcs
    obtain ⟨rfl, rfl, rfl⟩ := hcs
    rw [Try.cellsPiece] at hx
    have hlm : len ≤ m := by rw [hmm]; split <;> omega
    injection hx0 with hx0 _
    subst hx0
    have hsp : 0 < len → a.spot = none := fun h0 => by
      obtain ⟨cs', h1, _⟩ := hx 0 (by omega)
      obtain ⟨_, hl3, hcell⟩ := World.cells?_some h1
      have g0 := hcell 0 (by omega)
      rw [List.getElem?_eq_getElem (by omega)] at g0
      obtain ⟨b, off, spot⟩ := a
      cases spot with
      | none => rfl
      | some s =>
        exfalso
        simp only [Addr.add, World.cell?] at g0
        split at g0
        · simp at g0
        · cases g0
    have each : ∀ i, ∃ x : PieceV, i < len → ∃ b off c0 c1, (some a : Option Addr) = some ⟨b, off, none⟩ ∧ w.cell? ⟨b, off + i * 2, none⟩ = some c0 ∧ w.cell? ⟨b, off + i * 2 + 1, none⟩ = some c1 ∧ PieceAt w c0 c1 x := by
      intro i
      by_cases hi : i < len
      · obtain ⟨cs', h1, h2⟩ := hx i (by omega)
        obtain ⟨c0, c1, x, rfl, hX⟩ := piece_cells h2 (fun k hk => hz k (by
          simp only [DataW.weights, Try.underlying22]
          refine List.mem_cons_of_mem _ (List.mem_append_left _ ?_)
          exact weightsAll_piece (List.mem_map.2 ⟨i, List.mem_range.2 hi, rfl⟩) hk))
        obtain ⟨_, _, hcell⟩ := World.cells?_some h1
        have g0 : w.cell? ((a.add (i * 2)).add 0) = some c0 := hcell 0 (by omega)
        have g1 : w.cell? ((a.add (i * 2)).add 1) = some c1 := hcell 1 (by omega)
        have hs := hsp (by omega)
        obtain ⟨b, off, spot⟩ := a
        dsimp only at hs
        subst hs
        have e : ∀ j, ((⟨b, off, none⟩ : Addr).add (i * 2)).add j = ⟨b, off + i * 2 + j, none⟩ := fun j => by
          have e1 : (⟨b, off, none⟩ : Addr).add (i * 2) = ⟨b, off + i * 2, none⟩ := by unfold Addr.add; split <;> simp_all
          rw [e1]; unfold Addr.add; split <;> simp_all
        rw [e] at g0 g1
        exact ⟨x, fun _ => ⟨b, off, c0, c1, rfl, g0, g1, hX⟩⟩
      · exact ⟨([], false), fun h => absurd h hi⟩
    obtain ⟨R, hR⟩ := Classical.axiomOfChoice each
    refine ⟨(List.range len).map R, by simp, hl, hm, fun i hi => ?_⟩
    have e : ((List.range len).map R).getD i ([], false) = R i := by simp [List.getD, hi]
    rw [e]
    exact hR i hi
end
end Go.Proofs.Ytmpjjkfbojhfoaa
