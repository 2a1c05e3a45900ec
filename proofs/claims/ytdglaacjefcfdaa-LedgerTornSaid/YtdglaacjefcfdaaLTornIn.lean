/- bytes that came in, within the form's reach -/
import Derived.Test.YtdglaacjefcfdaaLTorn
namespace Go.Proofs.Ytdglaacjefcfdaa
open Go.RowKit
section
variable {H : Type} {enc : TypeId × Value → H} {w : World} {base : Nat} {held : Bool}
theorem bytes_in_sized {fuel : Nat} {ao : Option Addr} {len cap : Nat} {d : DataW H} {pl : List MemPlace} (h : DataW.trod enc Try.prog w base (fun _ => true) held fuel 24 [.slice ao len cap] = some (d, pl))
    (hz : ∀ n ∈ d.weights Try.prog 24, n ≤ reachBytes) : ∃ L, IsBytes w ao len cap L ∧ len ≤ 140737488355328 := by
  obtain ⟨L, hL⟩ := bytes_in h
  refine ⟨L, hL, ?_⟩
  rcases Go.ChangeShapes.open_ints Try.underlying24 Try.underlying5 (by kernel_rfl) h with ⟨hcs, _⟩ | ⟨a, l, c, zs, hcs, _, hl, hm, hzl, hx, hcell, hwz⟩
  · simp at hcs
    omega
  · simp at hcs
    obtain ⟨rfl, rfl, rfl⟩ := hcs
    injection hx with hx _
    subst hx
    have hw := hz zs.length (by
      simp only [DataW.weights, Try.underlying24, Try.bytesByte, Nat.mul_one]
      rw [show ((Go.ChangeShapes.lits (H := H) .u8 (zs.take len)).length + (Go.ChangeShapes.lits (H := H) .u8 (zs.drop len)).length) = zs.length by simp [Go.ChangeShapes.lits]; omega]
      exact List.mem_cons_self)
    have h47 : reachBytes < 2 ^ 47 := reachBytes_lt
    have : zs.length = cap := by simpa using hzl
    omega
end
end Go.Proofs.Ytdglaacjefcfdaa
