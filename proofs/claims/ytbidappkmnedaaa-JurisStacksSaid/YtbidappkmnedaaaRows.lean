/-
  No cell of these rows narrows 'for every input' (looked for: loops, veiled, ifaces, maps, wideKeys, modest, calm, conditions, laid).
  DERIVED. THE GIVEN ROWS OF THIS SEAT. 5 by the template 'for every input the law returns true; each argument reads behind the call as it read before'; 0 by the template 'total and deterministic' (their statements: YtbidappkmnedaaaTotals.lean).
  GIVEN WITH THE SEED: the statements are not yours to turn. If you find one false, say at which input.
  Laid BY PROGRAM, IN A SANDBOX (cutbox-rows.mjs): the forced cells as the released guide's own fill.sh prints them over the translation 6d10ee2add7c1630… (all of the seat's roots in one cut). By AI agents, Wed Nov 11 2026. No macro, syntax, notation, axiom, sorry.
-/
import Derived.Test.YtbidappkmnedaaaChecked
import GoSem.Claim
import GoSem.ClaimJoined
import GoSem.ClaimMapViews
import Derived.JoinedTies
import Derived.KernelRfl
namespace Go.Proofs.Ytbidappkmnedaaa
/- THE CELL 'sum', in the pinned program and in every row, IS THE sha256 OF THE DUMP (.gsa) THAT YtbidappkmnedaaaProg.lean LOADS. Nothing in Lean hashes anything: it is a label: what it is worth is what the hold of that sum in a sandbox is worth. -/
noncomputable def Try.pinned : Pinned := { name := "ytbidappkmnedaaa", sum := "6d10ee2add7c1630e7d026e3d3751fcc4ad72d046c60249e6cc20a84b8e1450c", checked := Try.checked }
namespace Rows
def none {H : Type} : Left H := { results := [], args := [] }

/-- 'apportionlaw20.JurisChecks': WHATEVER THE INPUT: true; the input reads as it did. -/
def jurisChecksSpec : ChangeSpec := { name := "jurisChecks", fn := fun _ => fun
  | [d1, d2] => { results := [.lit (.bool true)], args := [d1, d2] }
  | _ => none }
def jurisChecksRow : OpenClaim := { program := "ytbidappkmnedaaa", sum := "6d10ee2add7c1630e7d026e3d3751fcc4ad72d046c60249e6cc20a84b8e1450c", func := "apportion/apportionlaw20.JurisChecks", spec := "jurisChecks", unfollowed := true, recurses := true, apart := false }
def JurisChecksSaid : Prop := jurisChecksRow.holds Try.pinned (OpenSpec.ofChange jurisChecksSpec)

/-- ITS FALSE NEIGHBOUR: 'it returns false'. Refute it at one input. -/
def jurisChecksWrong : ChangeSpec := { name := "jurisChecks", fn := fun _ => fun
  | [d1, d2] => { results := [.lit (.bool false)], args := [d1, d2] }
  | _ => none }
def JurisChecksWrongFalsely : Prop := jurisChecksRow.holds Try.pinned (OpenSpec.ofChange jurisChecksWrong)

/-- 'apportionlaw20.JurisStack': WHATEVER THE INPUT: true; the input reads as it did. -/
def jurisStackSpec : ChangeSpec := { name := "jurisStack", fn := fun _ => fun
  | [d1, d2, d3] => { results := [.lit (.bool true)], args := [d1, d2, d3] }
  | _ => none }
def jurisStackRow : OpenClaim := { program := "ytbidappkmnedaaa", sum := "6d10ee2add7c1630e7d026e3d3751fcc4ad72d046c60249e6cc20a84b8e1450c", func := "apportion/apportionlaw20.JurisStack", spec := "jurisStack", unfollowed := true, recurses := true, apart := false }
def JurisStackSaid : Prop := jurisStackRow.holds Try.pinned (OpenSpec.ofChange jurisStackSpec)

/-- ITS FALSE NEIGHBOUR: 'it returns false'. Refute it at one input. -/
def jurisStackWrong : ChangeSpec := { name := "jurisStack", fn := fun _ => fun
  | [d1, d2, d3] => { results := [.lit (.bool false)], args := [d1, d2, d3] }
  | _ => none }
def JurisStackWrongFalsely : Prop := jurisStackRow.holds Try.pinned (OpenSpec.ofChange jurisStackWrong)

/-- 'apportionlaw20.JurisStacks': WHATEVER THE INPUT: true; the input reads as it did. -/
def jurisStacksSpec : ChangeSpec := { name := "jurisStacks", fn := fun _ => fun
  | [d1, d2, d3] => { results := [.lit (.bool true)], args := [d1, d2, d3] }
  | _ => none }
def jurisStacksRow : OpenClaim := { program := "ytbidappkmnedaaa", sum := "6d10ee2add7c1630e7d026e3d3751fcc4ad72d046c60249e6cc20a84b8e1450c", func := "apportion/apportionlaw20.JurisStacks", spec := "jurisStacks", unfollowed := true, recurses := true, apart := false }
def JurisStacksSaid : Prop := jurisStacksRow.holds Try.pinned (OpenSpec.ofChange jurisStacksSpec)

/-- ITS FALSE NEIGHBOUR: 'it returns false'. Refute it at one input. -/
def jurisStacksWrong : ChangeSpec := { name := "jurisStacks", fn := fun _ => fun
  | [d1, d2, d3] => { results := [.lit (.bool false)], args := [d1, d2, d3] }
  | _ => none }
def JurisStacksWrongFalsely : Prop := jurisStacksRow.holds Try.pinned (OpenSpec.ofChange jurisStacksWrong)

/-- 'apportionlaw20.JurisKnown': WHATEVER THE INPUT: true; the input reads as it did. -/
def jurisKnownSpec : ChangeSpec := { name := "jurisKnown", fn := fun _ => fun
  | [] => { results := [.lit (.bool true)], args := [] }
  | _ => none }
def jurisKnownRow : OpenClaim := { program := "ytbidappkmnedaaa", sum := "6d10ee2add7c1630e7d026e3d3751fcc4ad72d046c60249e6cc20a84b8e1450c", func := "apportion/apportionlaw20.JurisKnown", spec := "jurisKnown", unfollowed := true, recurses := true, apart := false }
def JurisKnownSaid : Prop := jurisKnownRow.holds Try.pinned (OpenSpec.ofChange jurisKnownSpec)

/-- ITS FALSE NEIGHBOUR: 'it returns false'. Refute it at one input. -/
def jurisKnownWrong : ChangeSpec := { name := "jurisKnown", fn := fun _ => fun
  | [] => { results := [.lit (.bool false)], args := [] }
  | _ => none }
def JurisKnownWrongFalsely : Prop := jurisKnownRow.holds Try.pinned (OpenSpec.ofChange jurisKnownWrong)

/-- 'apportionlaw20.JurisAbove': WHATEVER THE INPUT: true; the input reads as it did. -/
def jurisAboveSpec : ChangeSpec := { name := "jurisAbove", fn := fun _ => fun
  | [d1, d2] => { results := [.lit (.bool true)], args := [d1, d2] }
  | _ => none }
def jurisAboveRow : OpenClaim := { program := "ytbidappkmnedaaa", sum := "6d10ee2add7c1630e7d026e3d3751fcc4ad72d046c60249e6cc20a84b8e1450c", func := "apportion/apportionlaw20.JurisAbove", spec := "jurisAbove", unfollowed := true, recurses := true, apart := false }
def JurisAboveSaid : Prop := jurisAboveRow.holds Try.pinned (OpenSpec.ofChange jurisAboveSpec)

/-- ITS FALSE NEIGHBOUR: 'it returns false'. Refute it at one input. -/
def jurisAboveWrong : ChangeSpec := { name := "jurisAbove", fn := fun _ => fun
  | [d1, d2] => { results := [.lit (.bool false)], args := [d1, d2] }
  | _ => none }
def JurisAboveWrongFalsely : Prop := jurisAboveRow.holds Try.pinned (OpenSpec.ofChange jurisAboveWrong)

/- THE SECOND FORM. 'bulk': how many values and letters a reading holds, each counted each time it is reached (what is shared counts as often as it is met; a slice's spare places count too). A statement '..UptoSaid' is the law's where the arguments, and the package variables that the reading takes, are together of bulk at most 1048576: NARROWER than '..Said'. Prove '..Said' where nothing that the law and all that it calls make is longer than what came in: it says more and counts as full. Else prove '..UptoSaid'. A law counts once. -/
mutual
def uptoBulk {H : Type} : DataW H → Nat
  | .lit (.string bytes) => bytes.length + 1
  | .lit _ => 1
  | .nil => 1
  | .ptr d => uptoBulk d + 1
  | .slice elems spare => uptoBulkAll elems + uptoBulkAll spare + 1
  | .agg parts => uptoBulkAll parts + 1
  | .iface _ d => uptoBulk d + 1
  | .map entries => uptoBulkEntries entries + 1
  | .held _ => 1
def uptoBulkAll {H : Type} : List (DataW H) → Nat
  | [] => 0
  | d :: r => uptoBulk d + uptoBulkAll r
def uptoBulkEntries {H : Type} : List (Lit × DataW H) → Nat
  | [] => 0
  | x :: r => uptoBulkEntry x + uptoBulkEntries r
def uptoBulkEntry {H : Type} : Lit × DataW H → Nat
  | (.string bytes, d) => bytes.length + uptoBulk d + 1
  | (_, d) => uptoBulk d + 1
 end
def uptoSmall : (H : Type) → List (DataW H) → Bool := fun _ ds => decide (uptoBulkAll ds ≤ 1048576)
def OpenSpec.upto (s : _root_.Go.ChangeSpec) : _root_.Go.OpenSpec := { _root_.Go.OpenSpec.ofChange s with cond := some uptoSmall }

/-- 'apportionlaw20.JurisChecks', WHERE WHAT IT READS IS OF BULK AT MOST 1048576: true; the input reads as it did. -/
def jurisChecksUptoRow : OpenClaim := { program := "ytbidappkmnedaaa", sum := "6d10ee2add7c1630e7d026e3d3751fcc4ad72d046c60249e6cc20a84b8e1450c", func := "apportion/apportionlaw20.JurisChecks", spec := "jurisChecks", unfollowed := true, recurses := true, apart := false, narrowed := true }
def JurisChecksUptoSaid : Prop := jurisChecksUptoRow.holds Try.pinned (OpenSpec.upto jurisChecksSpec)

/-- 'apportionlaw20.JurisStack', WHERE WHAT IT READS IS OF BULK AT MOST 1048576: true; the input reads as it did. -/
def jurisStackUptoRow : OpenClaim := { program := "ytbidappkmnedaaa", sum := "6d10ee2add7c1630e7d026e3d3751fcc4ad72d046c60249e6cc20a84b8e1450c", func := "apportion/apportionlaw20.JurisStack", spec := "jurisStack", unfollowed := true, recurses := true, apart := false, narrowed := true }
def JurisStackUptoSaid : Prop := jurisStackUptoRow.holds Try.pinned (OpenSpec.upto jurisStackSpec)

/-- 'apportionlaw20.JurisStacks', WHERE WHAT IT READS IS OF BULK AT MOST 1048576: true; the input reads as it did. -/
def jurisStacksUptoRow : OpenClaim := { program := "ytbidappkmnedaaa", sum := "6d10ee2add7c1630e7d026e3d3751fcc4ad72d046c60249e6cc20a84b8e1450c", func := "apportion/apportionlaw20.JurisStacks", spec := "jurisStacks", unfollowed := true, recurses := true, apart := false, narrowed := true }
def JurisStacksUptoSaid : Prop := jurisStacksUptoRow.holds Try.pinned (OpenSpec.upto jurisStacksSpec)

/-- 'apportionlaw20.JurisKnown', WHERE WHAT IT READS IS OF BULK AT MOST 1048576: true; the input reads as it did. -/
def jurisKnownUptoRow : OpenClaim := { program := "ytbidappkmnedaaa", sum := "6d10ee2add7c1630e7d026e3d3751fcc4ad72d046c60249e6cc20a84b8e1450c", func := "apportion/apportionlaw20.JurisKnown", spec := "jurisKnown", unfollowed := true, recurses := true, apart := false, narrowed := true }
def JurisKnownUptoSaid : Prop := jurisKnownUptoRow.holds Try.pinned (OpenSpec.upto jurisKnownSpec)

/-- 'apportionlaw20.JurisAbove', WHERE WHAT IT READS IS OF BULK AT MOST 1048576: true; the input reads as it did. -/
def jurisAboveUptoRow : OpenClaim := { program := "ytbidappkmnedaaa", sum := "6d10ee2add7c1630e7d026e3d3751fcc4ad72d046c60249e6cc20a84b8e1450c", func := "apportion/apportionlaw20.JurisAbove", spec := "jurisAbove", unfollowed := true, recurses := true, apart := false, narrowed := true }
def JurisAboveUptoSaid : Prop := jurisAboveUptoRow.holds Try.pinned (OpenSpec.upto jurisAboveSpec)

end Rows
end Go.Proofs.Ytbidappkmnedaaa
