/-
  No cell of these rows narrows 'for every input' (looked for: loops, veiled, ifaces, maps, wideKeys, modest, calm, conditions, laid).
  DERIVED. THE GIVEN ROWS OF THIS SEAT. 5 by the template 'for every input the law returns true; each argument reads behind the call as it read before'; 0 by the template 'total and deterministic' (their statements: YtdikecfplohpeaaTotals.lean).
  GIVEN WITH THE SEED: the statements are not yours to turn. If you find one false, say at which input.
  Laid BY PROGRAM, IN A SANDBOX (cutbox-rows.mjs): the forced cells as the released guide's own fill.sh prints them over the translation 9f65881512167d81… (all of the seat's roots in one cut). By AI agents, Wed Nov 11 2026. No macro, syntax, notation, axiom, sorry.
-/
import Derived.Test.YtdikecfplohpeaaChecked
import GoSem.Claim
import GoSem.ClaimJoined
import GoSem.ClaimMapViews
import Derived.JoinedTies
import Derived.KernelRfl
namespace Go.Proofs.Ytdikecfplohpeaa
/- THE CELL 'sum', in the pinned program and in every row, IS THE sha256 OF THE DUMP (.gsa) THAT YtdikecfplohpeaaProg.lean LOADS. Nothing in Lean hashes anything: it is a label: what it is worth is what the hold of that sum in a sandbox is worth. -/
noncomputable def Try.pinned : Pinned := { name := "ytdikecfplohpeaa", sum := "9f65881512167d81eb9d4fe5ac303cdde5edf13a2c97f470331a7bdd663b2e8e", checked := Try.checked }
namespace Rows
def none {H : Type} : Left H := { results := [], args := [] }

/-- 'apportionlaw13.SlabStands': WHATEVER THE INPUT: true; the input reads as it did. -/
def slabStandsSpec : ChangeSpec := { name := "slabStands", fn := fun _ => fun
  | [d1, d2] => { results := [.lit (.bool true)], args := [d1, d2] }
  | _ => none }
def slabStandsRow : OpenClaim := { program := "ytdikecfplohpeaa", sum := "9f65881512167d81eb9d4fe5ac303cdde5edf13a2c97f470331a7bdd663b2e8e", func := "apportion/apportionlaw13.SlabStands", spec := "slabStands", unfollowed := true, recurses := true, plainKeys := false, apart := false }
def SlabStandsSaid : Prop := slabStandsRow.holds Try.pinned (OpenSpec.ofChange slabStandsSpec)

/-- ITS FALSE NEIGHBOUR: 'it returns false'. Refute it at one input. -/
def slabStandsWrong : ChangeSpec := { name := "slabStands", fn := fun _ => fun
  | [d1, d2] => { results := [.lit (.bool false)], args := [d1, d2] }
  | _ => none }
def SlabStandsWrongFalsely : Prop := slabStandsRow.holds Try.pinned (OpenSpec.ofChange slabStandsWrong)

/-- 'apportionlaw13.SlabNone': WHATEVER THE INPUT: true; the input reads as it did. -/
def slabNoneSpec : ChangeSpec := { name := "slabNone", fn := fun _ => fun
  | [d1, d2] => { results := [.lit (.bool true)], args := [d1, d2] }
  | _ => none }
def slabNoneRow : OpenClaim := { program := "ytdikecfplohpeaa", sum := "9f65881512167d81eb9d4fe5ac303cdde5edf13a2c97f470331a7bdd663b2e8e", func := "apportion/apportionlaw13.SlabNone", spec := "slabNone", unfollowed := true, recurses := true, plainKeys := false, apart := false }
def SlabNoneSaid : Prop := slabNoneRow.holds Try.pinned (OpenSpec.ofChange slabNoneSpec)

/-- ITS FALSE NEIGHBOUR: 'it returns false'. Refute it at one input. -/
def slabNoneWrong : ChangeSpec := { name := "slabNone", fn := fun _ => fun
  | [d1, d2] => { results := [.lit (.bool false)], args := [d1, d2] }
  | _ => none }
def SlabNoneWrongFalsely : Prop := slabNoneRow.holds Try.pinned (OpenSpec.ofChange slabNoneWrong)

/-- 'apportionlaw13.SlabKnown': WHATEVER THE INPUT: true; the input reads as it did. -/
def slabKnownSpec : ChangeSpec := { name := "slabKnown", fn := fun _ => fun
  | [] => { results := [.lit (.bool true)], args := [] }
  | _ => none }
def slabKnownRow : OpenClaim := { program := "ytdikecfplohpeaa", sum := "9f65881512167d81eb9d4fe5ac303cdde5edf13a2c97f470331a7bdd663b2e8e", func := "apportion/apportionlaw13.SlabKnown", spec := "slabKnown", unfollowed := true, recurses := true, plainKeys := false, apart := false }
def SlabKnownSaid : Prop := slabKnownRow.holds Try.pinned (OpenSpec.ofChange slabKnownSpec)

/-- ITS FALSE NEIGHBOUR: 'it returns false'. Refute it at one input. -/
def slabKnownWrong : ChangeSpec := { name := "slabKnown", fn := fun _ => fun
  | [] => { results := [.lit (.bool false)], args := [] }
  | _ => none }
def SlabKnownWrongFalsely : Prop := slabKnownRow.holds Try.pinned (OpenSpec.ofChange slabKnownWrong)

/-- 'apportionlaw13.SlabStacks': WHATEVER THE INPUT: true; the input reads as it did. -/
def slabStacksSpec : ChangeSpec := { name := "slabStacks", fn := fun _ => fun
  | [d1, d2] => { results := [.lit (.bool true)], args := [d1, d2] }
  | _ => none }
def slabStacksRow : OpenClaim := { program := "ytdikecfplohpeaa", sum := "9f65881512167d81eb9d4fe5ac303cdde5edf13a2c97f470331a7bdd663b2e8e", func := "apportion/apportionlaw13.SlabStacks", spec := "slabStacks", unfollowed := true, recurses := true, plainKeys := false, apart := false }
def SlabStacksSaid : Prop := slabStacksRow.holds Try.pinned (OpenSpec.ofChange slabStacksSpec)

/-- ITS FALSE NEIGHBOUR: 'it returns false'. Refute it at one input. -/
def slabStacksWrong : ChangeSpec := { name := "slabStacks", fn := fun _ => fun
  | [d1, d2] => { results := [.lit (.bool false)], args := [d1, d2] }
  | _ => none }
def SlabStacksWrongFalsely : Prop := slabStacksRow.holds Try.pinned (OpenSpec.ofChange slabStacksWrong)

/-- 'apportionlaw13.SlabSame': WHATEVER THE INPUT: true; the input reads as it did. -/
def slabSameSpec : ChangeSpec := { name := "slabSame", fn := fun _ => fun
  | [d1, d2, d3] => { results := [.lit (.bool true)], args := [d1, d2, d3] }
  | _ => none }
def slabSameRow : OpenClaim := { program := "ytdikecfplohpeaa", sum := "9f65881512167d81eb9d4fe5ac303cdde5edf13a2c97f470331a7bdd663b2e8e", func := "apportion/apportionlaw13.SlabSame", spec := "slabSame", unfollowed := true, recurses := true, plainKeys := false, apart := false }
def SlabSameSaid : Prop := slabSameRow.holds Try.pinned (OpenSpec.ofChange slabSameSpec)

/-- ITS FALSE NEIGHBOUR: 'it returns false'. Refute it at one input. -/
def slabSameWrong : ChangeSpec := { name := "slabSame", fn := fun _ => fun
  | [d1, d2, d3] => { results := [.lit (.bool false)], args := [d1, d2, d3] }
  | _ => none }
def SlabSameWrongFalsely : Prop := slabSameRow.holds Try.pinned (OpenSpec.ofChange slabSameWrong)

/- THE SECOND FORM. 'bulk': how many values and letters a reading holds, each counted each time it is reached (what is shared counts as often as it is met; a slice's spare places count too). A statement '..UptoSaid' is the law's where the arguments, and the package variables that the reading takes, are together of bulk at most 1048576: NARROWER than '..Said'. Prove '..Said' where nothing that the law and all that it calls make is longer than what came in: it says more and counts as full. Else prove '..UptoSaid'. A law counts once. -/
mutual
def uptoBulk {H : Type} : DataW H → Nat
  | .lit (.string bytes) => bytes.length + 1
  | .lit _ => 1
  | .nil => 1
  | .ptr d => uptoBulk d + 1
  | .slice elems spare => uptoBulkAll elems + uptoBulkAll spare + 1
  | .agg parts => uptoBulkAll parts + 1
  | .iface _ d => uptoBulk d + 1
  | .map entries => uptoBulkEntries entries + 1
  | .held _ => 1
def uptoBulkAll {H : Type} : List (DataW H) → Nat
  | [] => 0
  | d :: r => uptoBulk d + uptoBulkAll r
def uptoBulkEntries {H : Type} : List (Lit × DataW H) → Nat
  | [] => 0
  | x :: r => uptoBulkEntry x + uptoBulkEntries r
def uptoBulkEntry {H : Type} : Lit × DataW H → Nat
  | (.string bytes, d) => bytes.length + uptoBulk d + 1
  | (_, d) => uptoBulk d + 1
 end
def uptoSmall : (H : Type) → List (DataW H) → Bool := fun _ ds => decide (uptoBulkAll ds ≤ 1048576)
def OpenSpec.upto (s : _root_.Go.ChangeSpec) : _root_.Go.OpenSpec := { _root_.Go.OpenSpec.ofChange s with cond := some uptoSmall }

/-- 'apportionlaw13.SlabStands', WHERE WHAT IT READS IS OF BULK AT MOST 1048576: true; the input reads as it did. -/
def slabStandsUptoRow : OpenClaim := { program := "ytdikecfplohpeaa", sum := "9f65881512167d81eb9d4fe5ac303cdde5edf13a2c97f470331a7bdd663b2e8e", func := "apportion/apportionlaw13.SlabStands", spec := "slabStands", unfollowed := true, recurses := true, plainKeys := false, apart := false, narrowed := true }
def SlabStandsUptoSaid : Prop := slabStandsUptoRow.holds Try.pinned (OpenSpec.upto slabStandsSpec)

/-- 'apportionlaw13.SlabNone', WHERE WHAT IT READS IS OF BULK AT MOST 1048576: true; the input reads as it did. -/
def slabNoneUptoRow : OpenClaim := { program := "ytdikecfplohpeaa", sum := "9f65881512167d81eb9d4fe5ac303cdde5edf13a2c97f470331a7bdd663b2e8e", func := "apportion/apportionlaw13.SlabNone", spec := "slabNone", unfollowed := true, recurses := true, plainKeys := false, apart := false, narrowed := true }
def SlabNoneUptoSaid : Prop := slabNoneUptoRow.holds Try.pinned (OpenSpec.upto slabNoneSpec)

/-- 'apportionlaw13.SlabKnown', WHERE WHAT IT READS IS OF BULK AT MOST 1048576: true; the input reads as it did. -/
def slabKnownUptoRow : OpenClaim := { program := "ytdikecfplohpeaa", sum := "9f65881512167d81eb9d4fe5ac303cdde5edf13a2c97f470331a7bdd663b2e8e", func := "apportion/apportionlaw13.SlabKnown", spec := "slabKnown", unfollowed := true, recurses := true, plainKeys := false, apart := false, narrowed := true }
def SlabKnownUptoSaid : Prop := slabKnownUptoRow.holds Try.pinned (OpenSpec.upto slabKnownSpec)

/-- 'apportionlaw13.SlabStacks', WHERE WHAT IT READS IS OF BULK AT MOST 1048576: true; the input reads as it did. -/
def slabStacksUptoRow : OpenClaim := { program := "ytdikecfplohpeaa", sum := "9f65881512167d81eb9d4fe5ac303cdde5edf13a2c97f470331a7bdd663b2e8e", func := "apportion/apportionlaw13.SlabStacks", spec := "slabStacks", unfollowed := true, recurses := true, plainKeys := false, apart := false, narrowed := true }
def SlabStacksUptoSaid : Prop := slabStacksUptoRow.holds Try.pinned (OpenSpec.upto slabStacksSpec)

/-- 'apportionlaw13.SlabSame', WHERE WHAT IT READS IS OF BULK AT MOST 1048576: true; the input reads as it did. -/
def slabSameUptoRow : OpenClaim := { program := "ytdikecfplohpeaa", sum := "9f65881512167d81eb9d4fe5ac303cdde5edf13a2c97f470331a7bdd663b2e8e", func := "apportion/apportionlaw13.SlabSame", spec := "slabSame", unfollowed := true, recurses := true, plainKeys := false, apart := false, narrowed := true }
def SlabSameUptoSaid : Prop := slabSameUptoRow.holds Try.pinned (OpenSpec.upto slabSameSpec)

end Rows
end Go.Proofs.Ytdikecfplohpeaa
