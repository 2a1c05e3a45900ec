/- points as keys of a map -/
import Derived.Test.YtgijaaklhdcgeaaQRing4
import Derived.Maps.OwnSet
import Derived.DeepKeys4
set_option linter.unusedSimpArgs false
set_option linter.unusedVariables false
namespace Go.Proofs.Ytgijaaklhdcgeaa
open Go.RowKit Go.Geo Go.Maps
theorem laidOutQ : laidOutB Try.prog = true := by kernel_rfl
theorem rowPt : (27 : TypeId) < Try.prog.types.size := of_decide_eq_true (by kernel_rfl)
theorem widePt : (match Try.prog.underlying 27 with | some (.array _ _) | some (.struct _) => true | _ => false) = true := by rw [Try.underlying27]
set_option maxRecDepth 100000 in
theorem keyedPt : Keyed Try.prog 27 := Keyed.of_law (deep_law_laid laidOutQ (m := 2) (by omega) rowPt (by kernel_rfl) widePt)
theorem wf_i64 {a : Int} (h : -9223372036854775808 ≤ a) (k : a ≤ 9223372036854775807) : (Lit.int .i64 a).wf = true := by
  have e1 : IntKind.i64.min = -9223372036854775808 := by decide
  have e2 : IntKind.i64.max = 9223372036854775807 := by decide
  unfold Lit.wf
  dsimp only
  rw [e1, e2]
  simp [h, k]
/-- a point's key. -/
def keyL (p : Pt) : Lit := .string (keyBytes [.int .i64 p.x, .int .i64 p.y])
theorem key_pt {p : Pt} (h : validP p = true) : keyOf Try.prog 27 (ptV p) = some (keyL p) := by
  have hv := (validP_iff _).1 h
  have wx : (Lit.int .i64 p.x).wf = true := wf_i64 (by omega) (by omega)
  have wy : (Lit.int .i64 p.y).wf = true := wf_i64 (by omega) (by omega)
  have hk : Try.prog.keyType 27 = true := by kernel_rfl
  have hf : (ptV p).formed Try.prog 27 = true := by simp [ptV, Value.formed, Try.underlying27]; kernel_rfl
  unfold keyOf
  rw [Try.underlying27]
  dsimp only
  rw [hk, hf]
  obtain ⟨m, hm⟩ : ∃ m, Try.prog.types.size = m + 1 := ⟨_, (Nat.sub_add_cancel (Nat.lt_of_le_of_lt (Nat.zero_le _) rowPt)).symm⟩
  have h2 : Try.prog.cellsOf 27 = 2 := by kernel_rfl
  have h1 : Try.prog.cellsOf 3 = 1 := by kernel_rfl
  rw [hm]
  unfold Program.keyLits
  simp only [Try.underlying27]
  have hl : (ptV p).cells.toList = [.int .i64 p.x, .int .i64 p.y] := rfl
  have hi : ∀ z : Int, (Lit.int .i64 z).wf = true → Try.prog.keyLits (m + 1) 3 [.int .i64 z] = some [.int .i64 z] := fun z hz => by
    unfold Program.keyLits
    rw [Try.underlying3]
    dsimp only
    rw [if_pos ⟨rfl, hz⟩]
  rw [hl, h2]
  split
  · split
    · simp only [List.mapM_cons, List.mapM_nil, h1, List.drop, List.take, hi _ wx, hi _ wy]
      rfl
    · rename_i hh
      exact absurd ⟨rfl, by simp⟩ hh
  · rename_i hh
    exact absurd rfl hh
theorem keyL_is {p : Pt} (h : validP p = true) : keyOf Try.prog 27 (ptV p) = some (keyL p) := key_pt h
theorem ptV_inj {p q : Pt} (h : ptV p = ptV q) : p = q := by
  obtain ⟨a, b⟩ := p
  obtain ⟨c, d⟩ := q
  unfold ptV at h
  injection h with h
  have h := congrArg Array.toList h
  simp at h
  rw [h.1, h.2]
/-- the set of the points before. -/
noncomputable def setP {H : Type} (l : List Pt) : DataW H := setOf (.agg []) (l.map keyL)
theorem has_setP {H : Type} {l : List Pt} {p : Pt} (hl : ∀ v ∈ l, validP v = true) (h : validP p = true) : Maps.has (setP (H := H) l) (keyL p) = decide (p ∈ l) := by
  unfold setP
  rw [has_setOf _ _ _ (fun y hy => by obtain ⟨v, hv, rfl⟩ := List.mem_map.1 hy; exact keyedPt.key (keyL_is (hl v hv)))]
  rw [Bool.eq_iff_iff, List.any_eq_true, decide_eq_true_eq]
  constructor
  · rintro ⟨y, hy, hs⟩
    obtain ⟨v, hv, rfl⟩ := List.mem_map.1 hy
    have e := WideAt.sameKey_eq hs
    have k1 := keyL_is (hl v hv)
    have k2 := keyL_is h
    rw [e] at k1
    rw [← ptV_inj (keyedPt.inj k1 k2)]
    exact hv
  · intro hp
    exact ⟨keyL p, List.mem_map.2 ⟨p, hp, rfl⟩, WideAt.sameKey_self (keyedPt.key (keyL_is h))⟩
theorem setP_snoc {H : Type} (l : List Pt) (p : Pt) : setP (H := H) (l ++ [p]) = (setP l).put (keyL p) (.agg []) := by
  unfold setP
  rw [List.map_append, List.map_singleton, setOf_snoc]
end Go.Proofs.Ytgijaaklhdcgeaa
