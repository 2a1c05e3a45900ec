/- lists that came in, within the form's reach; the sum of their lengths -/
import Derived.Test.YtdglaacjefcfdaaIns
import Derived.Test.YtdglaacjefcfdaaLAt
import Derived.SizedLaws
namespace Go.Proofs.Ytdglaacjefcfdaa
open Go.RowKit
section
variable {H : Type} {enc : TypeId × Value → H} {w : World} {base : Nat} {held : Bool}
theorem Try.bytesByte : Try.prog.bytesOf 5 = 1 := by kernel_rfl
/-- n is among a row's weights. -/
def weightsMem (d : DataW H) (n : Nat) : Prop := n ∈ d.weights Try.prog 24
theorem weightsAll_mem {d : DataW H} {n : Nat} : ∀ {l : List (DataW H)}, d ∈ l → weightsMem d n → n ∈ DataW.weightsAll Try.prog 24 l
  | x :: l, h, hm => by
    simp only [DataW.weightsAll, List.mem_append]
    rcases List.mem_cons.1 h with rfl | h
    · exact .inl hm
    · exact .inr (weightsAll_mem h hm)
theorem lists_in_sized {fuel : Nat} {ao : Option Addr} {len cap : Nat} {d : DataW H} {pl : List MemPlace} (h : DataW.trod enc Try.prog w base (fun _ => true) held fuel 22 [.slice ao len cap] = some (d, pl))
    (hz : ∀ n ∈ d.weights Try.prog 22, n ≤ reachBytes) : ∃ L, IsLists w ao len cap L ∧ ∀ r ∈ L, r.length ≤ 140737488355328 := by
  rcases Go.Deep.open_int_rows Try.underlying22 Try.underlying24 Try.underlying5 (by kernel_rfl) (by kernel_rfl) h with ⟨hcs, _⟩ | ⟨a, l, c, RA, RL, RC, RZ, hcs, _, hl, hm, hx, hrows⟩
  · simp at hcs
    obtain ⟨rfl, rfl, rfl⟩ := hcs
    exact ⟨[], IsLists.nil w, fun r hr => by cases hr⟩
  · simp at hcs
    obtain ⟨rfl, rfl, rfl⟩ := hcs
    obtain ⟨L, hL⟩ := lists_of_rows hl hm (fun r hr => by
        obtain ⟨h1, h2, h3, h4, h5, h6, h7⟩ := hrows r hr
        exact ⟨h1, h2, h3, h4, h5, h6, fun a' ha => (h7 a' ha).2⟩)
    refine ⟨L, hL, fun r hr => ?_⟩
    obtain ⟨i, hi, rfl⟩ := List.getElem_of_mem hr
    have hil : i < len := by rw [← hL.1]; exact hi
    obtain ⟨b, off, aoi, ni, capi, e, hc, hb⟩ := hL.2.2.2.2 i hil
    obtain ⟨g1, g2, g3, g4, _⟩ := hrows i (by omega)
    injection e with e
    have hadd : a.add i = ⟨b, off + i, none⟩ := by rw [e]; unfold Addr.add; split <;> simp_all
    rw [hadd, hc] at g1
    injection g1 with g1
    injection g1 with q1 q2 q3
    have hlen : (L[i]).length = RL i := by
      have := hb.1
      rw [List.getD_eq_getElem?_getD, List.getElem?_eq_getElem hi] at this
      rw [← q2]; exact this
    rw [hlen]
    injection hx with hx _
    subst hx
    cases hA : RA i with
    | none =>
      obtain ⟨_, g2, _, _, _, g6, _⟩ := hrows i (by omega)
      have := g6 hA
      omega
    | some a' =>
      have hmem : weightsMem (Go.Deep.intRow (H := H) .u8 (RA i) (RL i) (RZ i)) ((RZ i).length) := by
        rw [hA]
        unfold weightsMem Go.Deep.intRow
        simp only [DataW.weights, Try.underlying24, Try.bytesByte, Nat.mul_one]
        rw [show ((Go.ChangeShapes.lits (H := H) .u8 ((RZ i).take (RL i))).length + (Go.ChangeShapes.lits (H := H) .u8 ((RZ i).drop (RL i))).length) = (RZ i).length by simp [Go.ChangeShapes.lits]; omega]
        exact List.mem_cons_self
      have hw := hz (RZ i).length (by
        simp only [DataW.weights, Try.underlying22]
        refine List.mem_cons_of_mem _ (List.mem_append_left _ ?_)
        exact weightsAll_mem (List.mem_map.2 ⟨i, List.mem_range.2 hil, rfl⟩) hmem)
      have h47 : reachBytes < 2 ^ 47 := reachBytes_lt
      omega
end
end Go.Proofs.Ytdglaacjefcfdaa
