/- layer 27's statements: DiskKeeps: what a piece does -/
import Derived.Test.YtmpjjkfbojhfoaaDZone
import Derived.Test.YtmpjjkfbojhfoaaDApart
namespace Go.Proofs.Ytmpjjkfbojhfoaa
open Go.RowKit
def nF : ByteArray := { data := #[102] }
theorem nF_fit : nameP nF.data.toList = true := by decide
/-- only more bytes are under way. -/
def onlyM : List Deed → Prop
  | [] => True
  | .more _ :: D => onlyM D
  | .cut _ :: _ => False
/-- these bytes. -/
def catD : List Deed → List UInt8
  | [] => []
  | .more x :: D => x ++ catD D
  | .cut _ :: D => catD D
theorem runD_only : ∀ (D : List Deed) (S : List UInt8), onlyM D → runD S D = S ++ catD D
  | [], S, _ => by simp [runD, catD]
  | .more x :: D, S, h => by rw [runD, runD_only D _ h, catD, List.append_assoc]
  | .cut _ :: _, _, h => h.elim
theorem units_only : ∀ (D : List Deed), onlyM D → unitsD D = (catD D).length
  | [], _ => rfl
  | .more x :: D, h => by
    have := units_only D h
    simp only [unitsD] at this
    simp [unitsD, Deed.units, catD, this]
  | .cut _ :: _, h => h.elim
theorem after_neg (D : List Deed) (b : List UInt8) {z : Int} (h : z ≤ 0) : afterZ b D z = b := by
  cases D with
  | nil => exact afterZ_nil b z
  | cons d D => exact afterZ_stop b d D h
theorem after_only : ∀ (D : List Deed) (S : List UInt8) (z : Nat), onlyM D → afterZ S D (z : Nat) = S ++ (catD D).take z
  | [], S, z, _ => by simp [afterZ_nil, catD]
  | .more x :: D, S, z, h => by
    by_cases hz : z = 0
    · subst hz
      rw [after_neg _ _ (by omega)]
      simp
    · rw [afterZ_more _ _ _ (by omega), catD]
      by_cases hx : x.length ≤ z
      · have e1 : (min (z : Int) (x.length : Int)).toNat = x.length := by omega
        have e2 : (z : Int) - (x.length : Int) = ((z - x.length : Nat) : Int) := by omega
        rw [e1, e2, List.take_of_length_le (Nat.le_refl _), after_only D _ _ h, List.append_assoc, List.take_append, List.take_of_length_le hx]
      · have e1 : (min (z : Int) (x.length : Int)).toNat = z := by omega
        rw [e1, after_neg _ _ (by omega), List.take_append_of_le_length (by omega)]
  | .cut _ :: _, _, _, h => h.elim
theorem onlyM_append : ∀ (D : List Deed) (x : List UInt8), onlyM D → onlyM (D ++ [.more x]) ∧ catD (D ++ [.more x]) = catD D ++ x
  | [], x, _ => ⟨trivial, by simp [catD]⟩
  | .more y :: D, x, h => by
    obtain ⟨h1, h2⟩ := onlyM_append D x h
    exact ⟨h1, by rw [List.cons_append, catD, h2, catD, List.append_assoc]⟩
  | .cut _ :: _, _, h => h.elim
theorem onlyM_laid (D : List Deed) (n : Nat) (B : List UInt8) (hB : B.length = n) (h : onlyM D) : onlyM (laid D n B) ∧ catD (laid D n B) = catD D ++ B := by
  unfold laid
  split
  · rename_i h0
    rw [List.eq_nil_of_length_eq_zero (by omega : B.length = 0)]
    exact ⟨h, by simp⟩
  · exact onlyM_append D B h
/-- the disk ahead of a piece: its fuse has burnt so far. -/
def KeepsAt (zg : Option Nat) (w : World) (fuse : Int) (k : Nat) (d mb base f : Nat) (S : List UInt8) (D : List Deed) : Prop :=
  ∃ st, (fuse < 0 ∧ @One ⟨zg⟩ w st (-1) false d mb base nF f S D) ∨ (0 ≤ fuse ∧ (k : Int) ≤ fuse ∧ @One ⟨zg⟩ w st (fuse - k) false d mb base nF f S D) ∨ (0 ≤ fuse ∧ fuse < (k : Int) ∧ ∃ fu, @One ⟨zg⟩ w st fu true d mb base nF f S D)
theorem KeepsAt.later {zg : Option Nat} {w w' : World} {fuse : Int} {k d mb base f : Nat} {S : List UInt8} {D : List Deed} (h : KeepsAt zg w fuse k d mb base f S D) (hb : Below w.heap.size w w') : KeepsAt zg w' fuse k d mb base f S D := by
  obtain ⟨st, ⟨h1, h⟩ | ⟨h1, h2, h⟩ | ⟨h1, h2, fu, h⟩⟩ := h
  · exact ⟨st, .inl ⟨h1, @One.later ⟨zg⟩ _ _ _ _ _ _ _ _ _ _ _ _ h hb⟩⟩
  · exact ⟨st, .inr (.inl ⟨h1, h2, @One.later ⟨zg⟩ _ _ _ _ _ _ _ _ _ _ _ _ h hb⟩)⟩
  · exact ⟨st, .inr (.inr ⟨h1, h2, fu, @One.later ⟨zg⟩ _ _ _ _ _ _ _ _ _ _ _ _ h hb⟩)⟩
/-- whichever it is, it is the disk with the one file. -/
theorem KeepsAt.one {zg : Option Nat} {w : World} {fuse : Int} {k d mb base f : Nat} {S : List UInt8} {D : List Deed} (h : KeepsAt zg w fuse k d mb base f S D) : ∃ st fu, @One ⟨zg⟩ w st fu (decide (0 ≤ fuse ∧ fuse < (k : Int))) d mb base nF f S D := by
  obtain ⟨st, ⟨h1, h⟩ | ⟨h1, h2, h⟩ | ⟨h1, h2, fu, h⟩⟩ := h
  · exact ⟨st, _, by rw [decide_eq_false (by omega)]; exact h⟩
  · exact ⟨st, _, by rw [decide_eq_false (by omega)]; exact h⟩
  · exact ⟨st, fu, by rw [decide_eq_true (by omega)]; exact h⟩
theorem KeepsAt.row {zg : Option Nat} {w : World} {fuse : Int} {k d mb base f : Nat} {S : List UInt8} {D : List Deed} (h : KeepsAt zg w fuse k d mb base f S D) : ∃ st fu out es c, DiskRow w d mb st fu out ∧ w.heap[mb]? = some (.map es c) := by
  obtain ⟨st, fu, c, C, hg, _⟩ := h.one
  obtain ⟨_, _, h3, cc, _, h5⟩ := @DiskG.dm ⟨zg⟩ _ _ _ _ _ _ _ _ _ hg
  exact ⟨_, _, _, _, _, h3, h5⟩
/-- what a step tells at piece k, and the disk behind it. -/
def PieceR (zg : Option Nat) (w w' : World) (fuse : Int) (k d mb base f : Nat) (S : List UInt8) (D : List Deed) (S' : List UInt8) (D' : List Deed) (z : Int) : Prop :=
  ((0 ≤ fuse ∧ fuse ≤ (k : Int) ∧ z = 10 ∧ KeepsAt zg w' fuse (k + 1) d mb base f S D) ∨ (¬ (0 ≤ fuse ∧ fuse ≤ (k : Int)) ∧ z = 0 ∧ KeepsAt zg w' fuse (k + 1) d mb base f S' D')) ∧ Kept d mb base w w'
theorem piece_of {zg : Option Nat} {w w' : World} {fuse z st : Int} {k d mb base f : Nat} {S S' : List UInt8} {D D' : List Deed} (h1 : 0 ≤ fuse) (h2 : (k : Int) ≤ fuse) (hk : Kept d mb base w w')
    (hs : Stepped (fuse - k) z (@One ⟨zg⟩ w' st (fuse - k) true d mb base nF f S D) (@One ⟨zg⟩ w' (wrap64 (st + 1)) (dec (fuse - k)) false d mb base nF f S' D')) : PieceR zg w w' fuse k d mb base f S D S' D' z := by
  rcases hs with ⟨q1, q2, q3⟩ | ⟨q1, q2, q3⟩
  · exact ⟨.inl ⟨h1, by omega, q2, _, .inr (.inr ⟨h1, by omega, _, q3⟩)⟩, hk⟩
  · refine ⟨.inr ⟨by omega, q2, wrap64 (st + 1), .inr (.inl ⟨h1, by omega, ?_⟩)⟩, hk⟩
    rw [show fuse - ((k + 1 : Nat) : Int) = dec (fuse - k) by unfold dec; rw [if_pos (by omega)]; omega]
    exact q3
theorem piece_append (zg : Option Nat) (fuse : Int) (k d mb base f : Nat) (S : List UInt8) (D : List Deed) (ao : Option Addr) (n cap : Nat) (B : List UInt8) (w : World) (hb : base ≤ w.heap.size) (h : KeepsAt zg w fuse k d mb base f S D) (hB : IsBytes w ao n cap B)
    (hn : n + (runD S D).length ≤ 1048576) (hDl : D.length ≤ 1000000) (hsm : S.length + unitsD D + n ≤ 4294967296) :
    Calls Try.prog 12 #[.pointer (some ⟨d, 0, none⟩), .string nF, .slice ao n cap] w fun e w' => ∃ z, e = .returned (.int .i64 z) ∧ PieceR zg w w' fuse k d mb base f S D S (laid D n B) z := by
  obtain ⟨st, ⟨h1, h⟩ | ⟨h1, h2, h⟩ | ⟨h1, h2, fu, h⟩⟩ := h
  · refine (@Append_one ⟨zg⟩ nF d mb base f st (-1) S D ao n cap B w hb nF_fit h hB hn hDl hsm).mono ?_
    rintro e w' ⟨z, rfl, hs, hk⟩
    obtain ⟨q1, q2⟩ := hs.done (by omega)
    rw [dec_none] at q2
    exact ⟨z, rfl, .inr ⟨by omega, q1, _, .inl ⟨h1, q2⟩⟩, hk⟩
  · refine (@Append_one ⟨zg⟩ nF d mb base f st (fuse - k) S D ao n cap B w hb nF_fit h hB hn hDl hsm).mono ?_
    rintro e w' ⟨z, rfl, hs, hk⟩
    exact ⟨z, rfl, piece_of h1 h2 hk hs⟩
  · have hr := h
    obtain ⟨c, C, hg, _⟩ := hr
    have hd := (@DiskG.dm ⟨zg⟩ _ _ _ _ _ _ _ _ _ hg).2.2.1
    refine (Append_gone d mb st fu nF ao n cap w hd).mono ?_
    rintro e w' ⟨rfl, hbl⟩
    exact ⟨10, rfl, .inl ⟨h1, by omega, rfl, st, .inr (.inr ⟨h1, by omega, fu, @One.later ⟨zg⟩ _ _ _ _ _ _ _ _ _ _ _ _ h hbl⟩)⟩, .of_below hbl hb⟩
theorem piece_sync (zg : Option Nat) (fuse : Int) (k d mb base f : Nat) (S : List UInt8) (D : List Deed) (w : World) (hb : base ≤ w.heap.size) (h : KeepsAt zg w fuse k d mb base f S D) :
    Calls Try.prog 13 #[.pointer (some ⟨d, 0, none⟩), .string nF] w fun e w' => ∃ z, e = .returned (.int .i64 z) ∧ PieceR zg w w' fuse k d mb base f S D (runD S D) [] z := by
  obtain ⟨st, ⟨h1, h⟩ | ⟨h1, h2, h⟩ | ⟨h1, h2, fu, h⟩⟩ := h
  · refine (@Sync_one ⟨zg⟩ nF d mb base f st (-1) S D w hb h).mono ?_
    rintro e w' ⟨z, rfl, hs, hk⟩
    obtain ⟨q1, q2⟩ := hs.done (by omega)
    rw [dec_none] at q2
    exact ⟨z, rfl, .inr ⟨by omega, q1, _, .inl ⟨h1, q2⟩⟩, hk⟩
  · refine (@Sync_one ⟨zg⟩ nF d mb base f st (fuse - k) S D w hb h).mono ?_
    rintro e w' ⟨z, rfl, hs, hk⟩
    exact ⟨z, rfl, piece_of h1 h2 hk hs⟩
  · have hr := h
    obtain ⟨c, C, hg, _⟩ := hr
    have hd := (@DiskG.dm ⟨zg⟩ _ _ _ _ _ _ _ _ _ hg).2.2.1
    refine (Sync_gone d mb st fu nF w hd).mono ?_
    rintro e w' ⟨rfl, hbl⟩
    exact ⟨10, rfl, .inl ⟨h1, by omega, rfl, st, .inr (.inr ⟨h1, by omega, fu, @One.later ⟨zg⟩ _ _ _ _ _ _ _ _ _ _ _ _ h hbl⟩)⟩, .of_below hbl hb⟩
theorem KeepsAt.up {zg : Option Nat} {w : World} {fuse : Int} {k d mb base f : Nat} {S : List UInt8} {D : List Deed} (h : KeepsAt zg w fuse k d mb base f S D) :
    Calls Try.prog 25 #[.pointer (some ⟨d, 0, none⟩)] w fun e w' => e = .returned (.bool (!decide (0 ≤ fuse ∧ fuse < (k : Int)))) ∧ w = w' := by
  obtain ⟨st, fu, c, C, hg, _⟩ := h.one
  exact Up_any d mb st fu _ w (@DiskG.dm ⟨zg⟩ _ _ _ _ _ _ _ _ _ hg).2.2.1
/-- the caller's own bytes grow: the disk stays. -/
theorem KeepsAt.grown {w w' : World} {fuse : Int} {k d mb base f b2 b3 : Nat} {S A A' : List UInt8} {D : List Deed} {v v' : Value} (h : KeepsAt v.ownBlock w fuse k d mb base f S D) (hv : OwnB w b2 v A) (hv' : OwnB w' b3 v' A') (hg : w.grownBy w' v.ownBlock) (hat : ∀ g, v'.ownBlock = some g → v.ownBlock = some g ∨ g = w.heap.size) :
    KeepsAt v'.ownBlock w' fuse k d mb base f S D := by
  have key : ∀ {st fu : Int} {out : Bool}, @One ⟨v.ownBlock⟩ w st fu out d mb base nF f S D → @One ⟨v'.ownBlock⟩ w' st fu out d mb base nF f S D := by
    rintro st fu out ⟨c, C, h1, h2⟩
    refine ⟨c, C, DiskG.rezone (Z1 := ⟨v.ownBlock⟩) (Z2 := ⟨v'.ownBlock⟩) h1 hg.size (fun j hj hne => hg.block j hj (fun e => hne e.symm)) (fun k hk => hv.typed hk) (fun g hgg => ⟨?_, (hv'.1.lt g hgg).2⟩), h2⟩
    rcases hat g hgg with r | r
    · exact .inl r
    · exact .inr (by omega)
  obtain ⟨st, ⟨h1, h⟩ | ⟨h1, h2, h⟩ | ⟨h1, h2, fu, h⟩⟩ := h
  · exact ⟨st, .inl ⟨h1, key h⟩⟩
  · exact ⟨st, .inr (.inl ⟨h1, h2, key h⟩)⟩
  · exact ⟨st, .inr (.inr ⟨h1, h2, fu, key h⟩)⟩
theorem KeepsAt.lt {zg : Option Nat} {w : World} {fuse : Int} {k d mb base f : Nat} {S : List UInt8} {D : List Deed} (h : KeepsAt zg w fuse k d mb base f S D) : ∀ g, zg = some g → g < w.heap.size := by
  obtain ⟨st, fu, c, C, hg, _⟩ := h.one
  exact @DiskG.zone ⟨zg⟩ _ _ _ _ _ _ _ _ _ hg
end Go.Proofs.Ytmpjjkfbojhfoaa
