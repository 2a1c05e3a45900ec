/- slices of bytes in a world: what a walk is told of them -/
import Derived.Test.YtmpjjkfbojhfoaaRows
import Derived.WalkKit
import Derived.WalkSpells
import Derived.WalkLawsBesides
import Derived.Lib.Hide
import Derived.WalkSmall
import Derived.Deep.QuietTactic
import Derived.BigQuiet
namespace Go.Proofs.Ytmpjjkfbojhfoaa
open Go.RowKit
/-- a byte as a value. -/
def u8 (c : UInt8) : Value := .int .u8 (c.toNat : Int)
def u8s (l : List UInt8) : List Value := l.map u8
/-- the bytes l lie in block b from off on. -/
def BytesAt (w : World) (b off : Nat) (l : List UInt8) : Prop := ∀ i, i < l.length → w.cell? ⟨b, off + i, none⟩ = some (.int .u8 ((l.getD i 0).toNat : Int))
/-- a slice's parts read as the bytes l. -/
def IsBytes (w : World) (ao : Option Addr) (n cap : Nat) (l : List UInt8) : Prop :=
  l.length = n ∧ n ≤ cap ∧ cap ≤ maxLen ∧ (l ≠ [] → ∃ b off, ao = some ⟨b, off, none⟩ ∧ BytesAt w b off l) ∧ (ao = none → n = 0 ∧ cap = 0)
theorem BytesAt.lt {w : World} {b off : Nat} {l : List UInt8} (h : BytesAt w b off l) (hl : l ≠ []) : b < w.heap.size := by
  have : 0 < l.length := by cases l; exact absurd rfl hl; simp
  exact block_lt_of_cell (h 0 this)
theorem BytesAt.later {w w' : World} {b off : Nat} {l : List UInt8} {B : Nat} (h : BytesAt w b off l) (hb : Below B w w') (hB : b < B) : BytesAt w' b off l :=
  fun i hi => (hb.cell (p := ⟨b, off + i, none⟩) hB).trans (h i hi)
theorem IsBytes.later {w w' : World} {ao : Option Addr} {n cap : Nat} {l : List UInt8} (h : IsBytes w ao n cap l) (hb : Below w.heap.size w w') : IsBytes w' ao n cap l := by
  obtain ⟨h1, h2, h3, h4, h5⟩ := h
  refine ⟨h1, h2, h3, fun hl => ?_, h5⟩
  obtain ⟨b, off, e, hc⟩ := h4 hl
  exact ⟨b, off, e, hc.later hb (hc.lt hl)⟩
theorem IsBytes.nil (w : World) : IsBytes w none 0 0 [] := ⟨rfl, Nat.le_refl _, by unfold maxLen; omega, fun h => absurd rfl h, fun _ => ⟨rfl, rfl⟩⟩
theorem getD_take (l : List UInt8) (k i : Nat) (h : i < k) : (l.take k).getD i 0 = l.getD i 0 := by
  simp [List.getD_eq_getElem?_getD, h]
theorem getD_drop (l : List UInt8) (k i : Nat) : (l.drop k).getD i 0 = l.getD (k + i) 0 := by
  simp [List.getD_eq_getElem?_getD]
theorem BytesAt.take {w : World} {b off : Nat} {l : List UInt8} (h : BytesAt w b off l) (k : Nat) : BytesAt w b off (l.take k) :=
  fun i hi => by
    have hk : i < k := by simp at hi; omega
    rw [getD_take l k i hk]; exact h i (by simp at hi; omega)
theorem BytesAt.drop {w : World} {b off : Nat} {l : List UInt8} (h : BytesAt w b off l) (k : Nat) : BytesAt w b (off + k) (l.drop k) :=
  fun i hi => by
    rw [getD_drop l k i, Nat.add_assoc]; exact h (k + i) (by simp at hi; omega)
theorem IsBytes.drewN {w : World} {ao : Option Addr} {n cap : Nat} {l : List UInt8} (h : IsBytes w ao n cap l) (q : Nat) : IsBytes (w.drewN q) ao n cap l := h.later (below_drewN (Below.refl _ _) q)
theorem below_grownBy {w w' : World} (hb : Below w.heap.size w w') (row : Option Nat) : w.grownBy w' row := ⟨hb.os, hb.tape, hb.output, hb.size, fun k hk _ => hb.block k hk⟩
theorem ownsRow_later {w w' : World} {base e size : Nat} {v : Value} {n : Nat} {xs : List Value} (h : w.ownsRow base e size v n xs) (hb : Below w.heap.size w w') : w'.ownsRow base e size v n xs :=
  h.kept (below_grownBy hb none) (by cases v.ownBlock <;> simp)
end Go.Proofs.Ytmpjjkfbojhfoaa
