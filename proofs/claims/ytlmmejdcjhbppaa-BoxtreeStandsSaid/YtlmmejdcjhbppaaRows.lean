/-
  No cell of these rows narrows 'for every input' (looked for: loops, veiled, ifaces, maps, wideKeys, modest, calm, conditions, laid).
  DERIVED. THE GIVEN ROWS OF THIS SEAT. 7 by the template 'for every input the law returns true; each argument reads behind the call as it read before'; 0 by the template 'total and deterministic' (their statements: YtlmmejdcjhbppaaTotals.lean).
  GIVEN WITH THE SEED: the statements are not yours to turn. If you find one false, say at which input.
  Laid BY PROGRAM, IN A SANDBOX (cutbox-rows.mjs): the forced cells as the released guide's own fill.sh prints them over the translation c688ae56ad98183a… (all of the seat's roots in one cut). By AI agents, Wed Nov 11 2026. No macro, syntax, notation, axiom, sorry.
-/
import Derived.Test.YtlmmejdcjhbppaaChecked
import GoSem.Claim
import GoSem.ClaimJoined
import GoSem.ClaimMapViews
import Derived.JoinedTies
import Derived.KernelRfl
namespace Go.Proofs.Ytlmmejdcjhbppaa
/- THE CELL 'sum', in the pinned program and in every row, IS THE sha256 OF THE DUMP (.gsa) THAT YtlmmejdcjhbppaaProg.lean LOADS. Nothing in Lean hashes anything: it is a label: what it is worth is what the hold of that sum in a sandbox is worth. -/
noncomputable def Try.pinned : Pinned := { name := "ytlmmejdcjhbppaa", sum := "c688ae56ad98183a5766437531dbe68ee923a9c144a089dd1acb72a6d523cb82", checked := Try.checked }
namespace Rows
def none {H : Type} : Left H := { results := [], args := [] }

/-- 'apportionlaw12.BoxtreeFinds': WHATEVER THE INPUT: true; the input reads as it did. -/
def boxtreeFindsSpec : ChangeSpec := { name := "boxtreeFinds", fn := fun _ => fun
  | [d1, d2, d3] => { results := [.lit (.bool true)], args := [d1, d2, d3] }
  | _ => none }
def boxtreeFindsRow : OpenClaim := { program := "ytlmmejdcjhbppaa", sum := "c688ae56ad98183a5766437531dbe68ee923a9c144a089dd1acb72a6d523cb82", func := "apportion/apportionlaw12.BoxtreeFinds", spec := "boxtreeFinds", inPlace := ["math/bits.Add64"], unfollowed := true, recurses := true, apart := false }
def BoxtreeFindsSaid : Prop := boxtreeFindsRow.holds Try.pinned (OpenSpec.ofChange boxtreeFindsSpec)

/-- ITS FALSE NEIGHBOUR: 'it returns false'. Refute it at one input. -/
def boxtreeFindsWrong : ChangeSpec := { name := "boxtreeFinds", fn := fun _ => fun
  | [d1, d2, d3] => { results := [.lit (.bool false)], args := [d1, d2, d3] }
  | _ => none }
def BoxtreeFindsWrongFalsely : Prop := boxtreeFindsRow.holds Try.pinned (OpenSpec.ofChange boxtreeFindsWrong)

/-- 'apportionlaw12.BoxtreeDeep': WHATEVER THE INPUT: true; the input reads as it did. -/
def boxtreeDeepSpec : ChangeSpec := { name := "boxtreeDeep", fn := fun _ => fun
  | [d] => { results := [.lit (.bool true)], args := [d] }
  | _ => none }
def boxtreeDeepRow : OpenClaim := { program := "ytlmmejdcjhbppaa", sum := "c688ae56ad98183a5766437531dbe68ee923a9c144a089dd1acb72a6d523cb82", func := "apportion/apportionlaw12.BoxtreeDeep", spec := "boxtreeDeep", inPlace := ["math/bits.Add64"], unfollowed := true, recurses := true, apart := false }
def BoxtreeDeepSaid : Prop := boxtreeDeepRow.holds Try.pinned (OpenSpec.ofChange boxtreeDeepSpec)

/-- ITS FALSE NEIGHBOUR: 'it returns false'. Refute it at one input. -/
def boxtreeDeepWrong : ChangeSpec := { name := "boxtreeDeep", fn := fun _ => fun
  | [d] => { results := [.lit (.bool false)], args := [d] }
  | _ => none }
def BoxtreeDeepWrongFalsely : Prop := boxtreeDeepRow.holds Try.pinned (OpenSpec.ofChange boxtreeDeepWrong)

/-- 'apportionlaw12.BoxtreeAll': WHATEVER THE INPUT: true; the input reads as it did. -/
def boxtreeAllSpec : ChangeSpec := { name := "boxtreeAll", fn := fun _ => fun
  | [d1, d2] => { results := [.lit (.bool true)], args := [d1, d2] }
  | _ => none }
def boxtreeAllRow : OpenClaim := { program := "ytlmmejdcjhbppaa", sum := "c688ae56ad98183a5766437531dbe68ee923a9c144a089dd1acb72a6d523cb82", func := "apportion/apportionlaw12.BoxtreeAll", spec := "boxtreeAll", inPlace := ["math/bits.Add64"], unfollowed := true, recurses := true, apart := false }
def BoxtreeAllSaid : Prop := boxtreeAllRow.holds Try.pinned (OpenSpec.ofChange boxtreeAllSpec)

/-- ITS FALSE NEIGHBOUR: 'it returns false'. Refute it at one input. -/
def boxtreeAllWrong : ChangeSpec := { name := "boxtreeAll", fn := fun _ => fun
  | [d1, d2] => { results := [.lit (.bool false)], args := [d1, d2] }
  | _ => none }
def BoxtreeAllWrongFalsely : Prop := boxtreeAllRow.holds Try.pinned (OpenSpec.ofChange boxtreeAllWrong)

/-- 'apportionlaw12.BoxtreeStands': WHATEVER THE INPUT: true; the input reads as it did. -/
def boxtreeStandsSpec : ChangeSpec := { name := "boxtreeStands", fn := fun _ => fun
  | [d1, d2] => { results := [.lit (.bool true)], args := [d1, d2] }
  | _ => none }
def boxtreeStandsRow : OpenClaim := { program := "ytlmmejdcjhbppaa", sum := "c688ae56ad98183a5766437531dbe68ee923a9c144a089dd1acb72a6d523cb82", func := "apportion/apportionlaw12.BoxtreeStands", spec := "boxtreeStands", inPlace := ["math/bits.Add64"], unfollowed := true, recurses := true, apart := false }
def BoxtreeStandsSaid : Prop := boxtreeStandsRow.holds Try.pinned (OpenSpec.ofChange boxtreeStandsSpec)

/-- ITS FALSE NEIGHBOUR: 'it returns false'. Refute it at one input. -/
def boxtreeStandsWrong : ChangeSpec := { name := "boxtreeStands", fn := fun _ => fun
  | [d1, d2] => { results := [.lit (.bool false)], args := [d1, d2] }
  | _ => none }
def BoxtreeStandsWrongFalsely : Prop := boxtreeStandsRow.holds Try.pinned (OpenSpec.ofChange boxtreeStandsWrong)

/-- 'apportionlaw12.BoxtreeNone': WHATEVER THE INPUT: true; the input reads as it did. -/
def boxtreeNoneSpec : ChangeSpec := { name := "boxtreeNone", fn := fun _ => fun
  | [d1, d2, d3] => { results := [.lit (.bool true)], args := [d1, d2, d3] }
  | _ => none }
def boxtreeNoneRow : OpenClaim := { program := "ytlmmejdcjhbppaa", sum := "c688ae56ad98183a5766437531dbe68ee923a9c144a089dd1acb72a6d523cb82", func := "apportion/apportionlaw12.BoxtreeNone", spec := "boxtreeNone", inPlace := ["math/bits.Add64"], unfollowed := true, recurses := true, apart := false }
def BoxtreeNoneSaid : Prop := boxtreeNoneRow.holds Try.pinned (OpenSpec.ofChange boxtreeNoneSpec)

/-- ITS FALSE NEIGHBOUR: 'it returns false'. Refute it at one input. -/
def boxtreeNoneWrong : ChangeSpec := { name := "boxtreeNone", fn := fun _ => fun
  | [d1, d2, d3] => { results := [.lit (.bool false)], args := [d1, d2, d3] }
  | _ => none }
def BoxtreeNoneWrongFalsely : Prop := boxtreeNoneRow.holds Try.pinned (OpenSpec.ofChange boxtreeNoneWrong)

/-- 'apportionlaw12.BoxtreeKnown': WHATEVER THE INPUT: true; the input reads as it did. -/
def boxtreeKnownSpec : ChangeSpec := { name := "boxtreeKnown", fn := fun _ => fun
  | [] => { results := [.lit (.bool true)], args := [] }
  | _ => none }
def boxtreeKnownRow : OpenClaim := { program := "ytlmmejdcjhbppaa", sum := "c688ae56ad98183a5766437531dbe68ee923a9c144a089dd1acb72a6d523cb82", func := "apportion/apportionlaw12.BoxtreeKnown", spec := "boxtreeKnown", inPlace := ["math/bits.Add64"], unfollowed := true, recurses := true, apart := false }
def BoxtreeKnownSaid : Prop := boxtreeKnownRow.holds Try.pinned (OpenSpec.ofChange boxtreeKnownSpec)

/-- ITS FALSE NEIGHBOUR: 'it returns false'. Refute it at one input. -/
def boxtreeKnownWrong : ChangeSpec := { name := "boxtreeKnown", fn := fun _ => fun
  | [] => { results := [.lit (.bool false)], args := [] }
  | _ => none }
def BoxtreeKnownWrongFalsely : Prop := boxtreeKnownRow.holds Try.pinned (OpenSpec.ofChange boxtreeKnownWrong)

/-- 'apportionlaw12.BoxtreeTurned': WHATEVER THE INPUT: true; the input reads as it did. -/
def boxtreeTurnedSpec : ChangeSpec := { name := "boxtreeTurned", fn := fun _ => fun
  | [d1, d2, d3] => { results := [.lit (.bool true)], args := [d1, d2, d3] }
  | _ => none }
def boxtreeTurnedRow : OpenClaim := { program := "ytlmmejdcjhbppaa", sum := "c688ae56ad98183a5766437531dbe68ee923a9c144a089dd1acb72a6d523cb82", func := "apportion/apportionlaw12.BoxtreeTurned", spec := "boxtreeTurned", inPlace := ["math/bits.Add64"], unfollowed := true, recurses := true, apart := false }
def BoxtreeTurnedSaid : Prop := boxtreeTurnedRow.holds Try.pinned (OpenSpec.ofChange boxtreeTurnedSpec)

/-- ITS FALSE NEIGHBOUR: 'it returns false'. Refute it at one input. -/
def boxtreeTurnedWrong : ChangeSpec := { name := "boxtreeTurned", fn := fun _ => fun
  | [d1, d2, d3] => { results := [.lit (.bool false)], args := [d1, d2, d3] }
  | _ => none }
def BoxtreeTurnedWrongFalsely : Prop := boxtreeTurnedRow.holds Try.pinned (OpenSpec.ofChange boxtreeTurnedWrong)

/- THE SECOND FORM. 'bulk': how many values and letters a reading holds, each counted each time it is reached (what is shared counts as often as it is met; a slice's spare places count too). A statement '..UptoSaid' is the law's where the arguments, and the package variables that the reading takes, are together of bulk at most 1048576: NARROWER than '..Said'. Prove '..Said' where nothing that the law and all that it calls make is longer than what came in: it says more and counts as full. Else prove '..UptoSaid'. A law counts once. -/
mutual
def uptoBulk {H : Type} : DataW H → Nat
  | .lit (.string bytes) => bytes.length + 1
  | .lit _ => 1
  | .nil => 1
  | .ptr d => uptoBulk d + 1
  | .slice elems spare => uptoBulkAll elems + uptoBulkAll spare + 1
  | .agg parts => uptoBulkAll parts + 1
  | .iface _ d => uptoBulk d + 1
  | .map entries => uptoBulkEntries entries + 1
  | .held _ => 1
def uptoBulkAll {H : Type} : List (DataW H) → Nat
  | [] => 0
  | d :: r => uptoBulk d + uptoBulkAll r
def uptoBulkEntries {H : Type} : List (Lit × DataW H) → Nat
  | [] => 0
  | x :: r => uptoBulkEntry x + uptoBulkEntries r
def uptoBulkEntry {H : Type} : Lit × DataW H → Nat
  | (.string bytes, d) => bytes.length + uptoBulk d + 1
  | (_, d) => uptoBulk d + 1
 end
def uptoSmall : (H : Type) → List (DataW H) → Bool := fun _ ds => decide (uptoBulkAll ds ≤ 1048576)
def OpenSpec.upto (s : _root_.Go.ChangeSpec) : _root_.Go.OpenSpec := { _root_.Go.OpenSpec.ofChange s with cond := some uptoSmall }

/-- 'apportionlaw12.BoxtreeFinds', WHERE WHAT IT READS IS OF BULK AT MOST 1048576: true; the input reads as it did. -/
def boxtreeFindsUptoRow : OpenClaim := { program := "ytlmmejdcjhbppaa", sum := "c688ae56ad98183a5766437531dbe68ee923a9c144a089dd1acb72a6d523cb82", func := "apportion/apportionlaw12.BoxtreeFinds", spec := "boxtreeFinds", inPlace := ["math/bits.Add64"], unfollowed := true, recurses := true, apart := false, narrowed := true }
def BoxtreeFindsUptoSaid : Prop := boxtreeFindsUptoRow.holds Try.pinned (OpenSpec.upto boxtreeFindsSpec)

/-- 'apportionlaw12.BoxtreeDeep', WHERE WHAT IT READS IS OF BULK AT MOST 1048576: true; the input reads as it did. -/
def boxtreeDeepUptoRow : OpenClaim := { program := "ytlmmejdcjhbppaa", sum := "c688ae56ad98183a5766437531dbe68ee923a9c144a089dd1acb72a6d523cb82", func := "apportion/apportionlaw12.BoxtreeDeep", spec := "boxtreeDeep", inPlace := ["math/bits.Add64"], unfollowed := true, recurses := true, apart := false, narrowed := true }
def BoxtreeDeepUptoSaid : Prop := boxtreeDeepUptoRow.holds Try.pinned (OpenSpec.upto boxtreeDeepSpec)

/-- 'apportionlaw12.BoxtreeAll', WHERE WHAT IT READS IS OF BULK AT MOST 1048576: true; the input reads as it did. -/
def boxtreeAllUptoRow : OpenClaim := { program := "ytlmmejdcjhbppaa", sum := "c688ae56ad98183a5766437531dbe68ee923a9c144a089dd1acb72a6d523cb82", func := "apportion/apportionlaw12.BoxtreeAll", spec := "boxtreeAll", inPlace := ["math/bits.Add64"], unfollowed := true, recurses := true, apart := false, narrowed := true }
def BoxtreeAllUptoSaid : Prop := boxtreeAllUptoRow.holds Try.pinned (OpenSpec.upto boxtreeAllSpec)

/-- 'apportionlaw12.BoxtreeStands', WHERE WHAT IT READS IS OF BULK AT MOST 1048576: true; the input reads as it did. -/
def boxtreeStandsUptoRow : OpenClaim := { program := "ytlmmejdcjhbppaa", sum := "c688ae56ad98183a5766437531dbe68ee923a9c144a089dd1acb72a6d523cb82", func := "apportion/apportionlaw12.BoxtreeStands", spec := "boxtreeStands", inPlace := ["math/bits.Add64"], unfollowed := true, recurses := true, apart := false, narrowed := true }
def BoxtreeStandsUptoSaid : Prop := boxtreeStandsUptoRow.holds Try.pinned (OpenSpec.upto boxtreeStandsSpec)

/-- 'apportionlaw12.BoxtreeNone', WHERE WHAT IT READS IS OF BULK AT MOST 1048576: true; the input reads as it did. -/
def boxtreeNoneUptoRow : OpenClaim := { program := "ytlmmejdcjhbppaa", sum := "c688ae56ad98183a5766437531dbe68ee923a9c144a089dd1acb72a6d523cb82", func := "apportion/apportionlaw12.BoxtreeNone", spec := "boxtreeNone", inPlace := ["math/bits.Add64"], unfollowed := true, recurses := true, apart := false, narrowed := true }
def BoxtreeNoneUptoSaid : Prop := boxtreeNoneUptoRow.holds Try.pinned (OpenSpec.upto boxtreeNoneSpec)

/-- 'apportionlaw12.BoxtreeKnown', WHERE WHAT IT READS IS OF BULK AT MOST 1048576: true; the input reads as it did. -/
def boxtreeKnownUptoRow : OpenClaim := { program := "ytlmmejdcjhbppaa", sum := "c688ae56ad98183a5766437531dbe68ee923a9c144a089dd1acb72a6d523cb82", func := "apportion/apportionlaw12.BoxtreeKnown", spec := "boxtreeKnown", inPlace := ["math/bits.Add64"], unfollowed := true, recurses := true, apart := false, narrowed := true }
def BoxtreeKnownUptoSaid : Prop := boxtreeKnownUptoRow.holds Try.pinned (OpenSpec.upto boxtreeKnownSpec)

/-- 'apportionlaw12.BoxtreeTurned', WHERE WHAT IT READS IS OF BULK AT MOST 1048576: true; the input reads as it did. -/
def boxtreeTurnedUptoRow : OpenClaim := { program := "ytlmmejdcjhbppaa", sum := "c688ae56ad98183a5766437531dbe68ee923a9c144a089dd1acb72a6d523cb82", func := "apportion/apportionlaw12.BoxtreeTurned", spec := "boxtreeTurned", inPlace := ["math/bits.Add64"], unfollowed := true, recurses := true, apart := false, narrowed := true }
def BoxtreeTurnedUptoSaid : Prop := boxtreeTurnedUptoRow.holds Try.pinned (OpenSpec.upto boxtreeTurnedSpec)

end Rows
end Go.Proofs.Ytlmmejdcjhbppaa
