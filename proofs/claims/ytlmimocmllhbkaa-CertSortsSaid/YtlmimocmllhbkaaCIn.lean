/- certificates that came in -/
import Derived.Test.YtlmimocmllhbkaaCSorted
import Derived.Deep.Slices
namespace Go.Proofs.Ytlmimocmllhbkaa
open Go.RowKit
theorem Try.cellsC : Try.prog.cellsOf 30 = 5 := by kernel_rfl
theorem Try.cellsI : Try.prog.cellsOf 3 = 1 := by kernel_rfl
section
variable {H : Type} {enc : TypeId × Value → H} {w : World} {base : Nat} {spare : Nat → Bool} {held : Bool}
/-- a certificate's five cells, read as data: five ints. -/
theorem cert_cells {fuel : Nat} {cs : List Value} {x : DataW H × List MemPlace} (h : DataW.trod enc Try.prog w base spare held fuel 30 cs = some x) : ∃ c : Crt, cs = c.row.toList ∧ (Lit.int .i64 c.cu).wf = true ∧ (Lit.int .i64 c.ju).wf = true ∧ (Lit.int .i64 c.ca).wf = true ∧ (Lit.int .i64 c.fr).wf = true ∧ (Lit.int .i64 c.to).wf = true := by
  obtain ⟨xs, n, _, _, hl, hxs, hf⟩ := DataW.trod_struct Try.underlying30 h
  rw [Try.cellsC] at hl
  have hx5 : xs.length = 5 := hxs
  obtain ⟨v0, v1, v2, v3, v4, rfl⟩ : ∃ v0 v1 v2 v3 v4, cs = [v0, v1, v2, v3, v4] := by
    match cs, hl with
    | [a, b, c, d, e], _ => exact ⟨a, b, c, d, e, rfl⟩
  have f0 : DataW.trod enc Try.prog w base spare held n 3 (([v0, v1, v2, v3, v4].drop 0).take (Try.prog.cellsOf 3)) = xs[0]? := hf 0 _ rfl
  have f1 : DataW.trod enc Try.prog w base spare held n 3 (([v0, v1, v2, v3, v4].drop 1).take (Try.prog.cellsOf 3)) = xs[1]? := hf 1 _ rfl
  have f2 : DataW.trod enc Try.prog w base spare held n 3 (([v0, v1, v2, v3, v4].drop 2).take (Try.prog.cellsOf 3)) = xs[2]? := hf 2 _ rfl
  have f3 : DataW.trod enc Try.prog w base spare held n 3 (([v0, v1, v2, v3, v4].drop 3).take (Try.prog.cellsOf 3)) = xs[3]? := hf 3 _ rfl
  have f4 : DataW.trod enc Try.prog w base spare held n 3 (([v0, v1, v2, v3, v4].drop 4).take (Try.prog.cellsOf 3)) = xs[4]? := hf 4 _ rfl
  rw [List.getElem?_eq_getElem (by omega), Try.cellsI] at f0
  rw [List.getElem?_eq_getElem (by omega), Try.cellsI] at f1
  rw [List.getElem?_eq_getElem (by omega), Try.cellsI] at f2
  rw [List.getElem?_eq_getElem (by omega), Try.cellsI] at f3
  rw [List.getElem?_eq_getElem (by omega), Try.cellsI] at f4
  obtain ⟨z0, e0, _, q0⟩ := DataW.trod_int Try.underlying3 f0
  obtain ⟨z1, e1, _, q1⟩ := DataW.trod_int Try.underlying3 f1
  obtain ⟨z2, e2, _, q2⟩ := DataW.trod_int Try.underlying3 f2
  obtain ⟨z3, e3, _, q3⟩ := DataW.trod_int Try.underlying3 f3
  obtain ⟨z4, e4, _, q4⟩ := DataW.trod_int Try.underlying3 f4
  have g0 : [v0] = [Value.int .i64 z0] := e0
  have g1 : [v1] = [Value.int .i64 z1] := e1
  have g2 : [v2] = [Value.int .i64 z2] := e2
  have g3 : [v3] = [Value.int .i64 z3] := e3
  have g4 : [v4] = [Value.int .i64 z4] := e4
  cases g0
  cases g1
  cases g2
  cases g3
  cases g4
  exact ⟨⟨z0, z1, z2, z3, z4⟩, rfl, q0, q1, q2, q3, q4⟩
theorem cells5 {a : Addr} {c : Crt} (h : w.cells? base a 5 = some c.row.toList) : ∀ j, j < 5 → w.cell? (a.add j) = some (.int .i64 (c.get j)) := by
  unfold World.cells? at h
  split at h
  · simp only [show List.range 5 = [0, 1, 2, 3, 4] from rfl, List.mapM_cons, List.mapM_nil, Crt.row] at h
    cases h0 : w.cell? (a.add 0) with
    | none => rw [h0] at h; simp at h
    | some u0 =>
      cases h1 : w.cell? (a.add 1) with
      | none => rw [h0, h1] at h; simp at h
      | some u1 =>
        cases h2 : w.cell? (a.add 2) with
        | none => rw [h0, h1, h2] at h; simp at h
        | some u2 =>
          cases h3 : w.cell? (a.add 3) with
          | none => rw [h0, h1, h2, h3] at h; simp at h
          | some u3 =>
            cases h4 : w.cell? (a.add 4) with
            | none => rw [h0, h1, h2, h3, h4] at h; simp at h
            | some u4 =>
              rw [h0, h1, h2, h3, h4] at h
              simp at h
              obtain ⟨rfl, rfl, rfl, rfl, rfl⟩ := h
              intro j hj
              match j, hj with
              | 0, _ => exact h0
              | 1, _ => exact h1
              | 2, _ => exact h2
              | 3, _ => exact h3
              | 4, _ => exact h4
  · cases h
theorem certs_in {fuel : Nat} {ao : Option Addr} {len cap : Nat} {x : DataW H × List MemPlace} (h : DataW.trod enc Try.prog w base spare held fuel 24 [.slice ao len cap] = some x) : ∃ L, IsCerts w ao len cap L := by
  rcases Go.Deep.open_slice Try.underlying24 h with ⟨hcs, _⟩ | ⟨a, l, c, m, n, D, Pl, hcs, _, hl, hm, hmm, _, hx⟩
  · simp at hcs
    obtain ⟨rfl, rfl, rfl⟩ := hcs
    exact ⟨[], rfl, Nat.le_refl _, by unfold maxLen; omega, fun h => absurd h (by simp), fun _ => ⟨rfl, rfl⟩⟩
  · simp at hcs
    obtain ⟨rfl, rfl, rfl⟩ := hcs
    rw [Try.cellsC] at hx
    have hlm : len ≤ m := by rw [hmm]; split <;> omega
    have each : ∀ i, ∃ c : Crt, i < len → ∀ j, j < 5 → w.cell? ((a.add (i * 5)).add j) = some (.int .i64 (c.get j)) := by
      intro i
      by_cases hi : i < len
      · obtain ⟨cs', h1, h2⟩ := hx i (by omega)
        obtain ⟨c, rfl, _⟩ := cert_cells h2
        exact ⟨c, fun _ => cells5 h1⟩
      · exact ⟨c0, fun h => absurd h hi⟩
    obtain ⟨R, hR⟩ := Classical.axiomOfChoice each
    refine ⟨(List.range len).map R, by simp, hl, hm, fun hpos => ?_, fun h => by cases h⟩
    obtain ⟨b, off, spot⟩ := a
    have h0 := hR 0 hpos 0 (by omega)
    have hs : spot = none := by
      cases spot with
      | none => rfl
      | some s =>
        simp only [Addr.add, World.cell?] at h0
        split at h0 <;> simp at h0
    subst hs
    refine ⟨b, off, rfl, fun i hi j hj => ?_⟩
    have hc := hR i hi j hj
    have e : ((⟨b, off, none⟩ : Addr).add (i * 5)).add j = ⟨b, off + i * 5 + j, none⟩ := by
      have e1 : (⟨b, off, none⟩ : Addr).add (i * 5) = ⟨b, off + i * 5, none⟩ := by unfold Addr.add; split <;> simp_all
      rw [e1]; unfold Addr.add; split <;> simp_all
    rw [e] at hc
    have : ((List.range len).map R).getD i c0 = R i := by simp [List.getD, hi]
    rw [this]
    exact hc
end
end Go.Proofs.Ytlmimocmllhbkaa
