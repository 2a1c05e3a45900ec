/-
  No cell of these rows narrows 'for every input' (looked for: loops, veiled, ifaces, maps, wideKeys, modest, calm, conditions, laid).
  DERIVED. THE GIVEN ROWS OF THIS SEAT. 5 by the template 'for every input the law returns true; each argument reads behind the call as it read before'; 0 by the template 'total and deterministic' (their statements: YtdglaacjefcfdaaTotals.lean).
  GIVEN WITH THE SEED: the statements are not yours to turn. If you find one false, say at which input.
  Laid BY PROGRAM, IN A SANDBOX (cutbox-rows.mjs): the forced cells as the released guide's own fill.sh prints them over the translation e1092c103597c895… (all of the seat's roots in one cut). By AI agents, Wed Nov 11 2026. No macro, syntax, notation, axiom, sorry.
-/
import Derived.Test.YtdglaacjefcfdaaChecked
import GoSem.Claim
import GoSem.ClaimJoined
import GoSem.ClaimMapViews
import Derived.JoinedTies
import Derived.KernelRfl
namespace Go.Proofs.Ytdglaacjefcfdaa
/- THE CELL 'sum', in the pinned program and in every row, IS THE sha256 OF THE DUMP (.gsa) THAT YtdglaacjefcfdaaProg.lean LOADS. Nothing in Lean hashes anything: it is a label: what it is worth is what the hold of that sum in a sandbox is worth. -/
noncomputable def Try.pinned : Pinned := { name := "ytdglaacjefcfdaa", sum := "e1092c103597c895839a9093dc44f39d2595731eed37a1ff25978ec678f73423", checked := Try.checked }
namespace Rows
def none {H : Type} : Left H := { results := [], args := [] }

/-- 'apportionlaw28.LedgerTurned': WHATEVER THE INPUT: true; the input reads as it did. -/
def ledgerTurnedSpec : ChangeSpec := { name := "ledgerTurned", fn := fun _ => fun
  | [d1, d2] => { results := [.lit (.bool true)], args := [d1, d2] }
  | _ => none }
def ledgerTurnedRow : OpenClaim := { program := "ytdglaacjefcfdaa", sum := "e1092c103597c895839a9093dc44f39d2595731eed37a1ff25978ec678f73423", func := "apportion/apportionlaw28.LedgerTurned", spec := "ledgerTurned", inPlace := ["sync/atomic.AddInt64"], unfollowed := true, recurses := true, apart := false }
def LedgerTurnedSaid : Prop := ledgerTurnedRow.holds Try.pinned (OpenSpec.ofChange ledgerTurnedSpec)

/-- ITS FALSE NEIGHBOUR: 'it returns false'. Refute it at one input. -/
def ledgerTurnedWrong : ChangeSpec := { name := "ledgerTurned", fn := fun _ => fun
  | [d1, d2] => { results := [.lit (.bool false)], args := [d1, d2] }
  | _ => none }
def LedgerTurnedWrongFalsely : Prop := ledgerTurnedRow.holds Try.pinned (OpenSpec.ofChange ledgerTurnedWrong)

/-- 'apportionlaw28.LedgerNone': WHATEVER THE INPUT: true; the input reads as it did. -/
def ledgerNoneSpec : ChangeSpec := { name := "ledgerNone", fn := fun _ => fun
  | [d] => { results := [.lit (.bool true)], args := [d] }
  | _ => none }
def ledgerNoneRow : OpenClaim := { program := "ytdglaacjefcfdaa", sum := "e1092c103597c895839a9093dc44f39d2595731eed37a1ff25978ec678f73423", func := "apportion/apportionlaw28.LedgerNone", spec := "ledgerNone", inPlace := ["sync/atomic.AddInt64"], unfollowed := true, recurses := true, apart := false }
def LedgerNoneSaid : Prop := ledgerNoneRow.holds Try.pinned (OpenSpec.ofChange ledgerNoneSpec)

/-- ITS FALSE NEIGHBOUR: 'it returns false'. Refute it at one input. -/
def ledgerNoneWrong : ChangeSpec := { name := "ledgerNone", fn := fun _ => fun
  | [d] => { results := [.lit (.bool false)], args := [d] }
  | _ => none }
def LedgerNoneWrongFalsely : Prop := ledgerNoneRow.holds Try.pinned (OpenSpec.ofChange ledgerNoneWrong)

/-- 'apportionlaw28.LedgerTorn': WHATEVER THE INPUT: true; the input reads as it did. -/
def ledgerTornSpec : ChangeSpec := { name := "ledgerTorn", fn := fun _ => fun
  | [d1, d2, d3] => { results := [.lit (.bool true)], args := [d1, d2, d3] }
  | _ => none }
def ledgerTornRow : OpenClaim := { program := "ytdglaacjefcfdaa", sum := "e1092c103597c895839a9093dc44f39d2595731eed37a1ff25978ec678f73423", func := "apportion/apportionlaw28.LedgerTorn", spec := "ledgerTorn", inPlace := ["sync/atomic.AddInt64"], unfollowed := true, recurses := true, apart := false }
def LedgerTornSaid : Prop := ledgerTornRow.holds Try.pinned (OpenSpec.ofChange ledgerTornSpec)

/-- ITS FALSE NEIGHBOUR: 'it returns false'. Refute it at one input. -/
def ledgerTornWrong : ChangeSpec := { name := "ledgerTorn", fn := fun _ => fun
  | [d1, d2, d3] => { results := [.lit (.bool false)], args := [d1, d2, d3] }
  | _ => none }
def LedgerTornWrongFalsely : Prop := ledgerTornRow.holds Try.pinned (OpenSpec.ofChange ledgerTornWrong)

/-- 'apportionlaw28.LedgerCrash': WHATEVER THE INPUT: true; the input reads as it did. -/
def ledgerCrashSpec : ChangeSpec := { name := "ledgerCrash", fn := fun _ => fun
  | [d] => { results := [.lit (.bool true)], args := [d] }
  | _ => none }
def ledgerCrashRow : OpenClaim := { program := "ytdglaacjefcfdaa", sum := "e1092c103597c895839a9093dc44f39d2595731eed37a1ff25978ec678f73423", func := "apportion/apportionlaw28.LedgerCrash", spec := "ledgerCrash", inPlace := ["sync/atomic.AddInt64"], unfollowed := true, recurses := true, apart := false }
def LedgerCrashSaid : Prop := ledgerCrashRow.holds Try.pinned (OpenSpec.ofChange ledgerCrashSpec)

/-- ITS FALSE NEIGHBOUR: 'it returns false'. Refute it at one input. -/
def ledgerCrashWrong : ChangeSpec := { name := "ledgerCrash", fn := fun _ => fun
  | [d] => { results := [.lit (.bool false)], args := [d] }
  | _ => none }
def LedgerCrashWrongFalsely : Prop := ledgerCrashRow.holds Try.pinned (OpenSpec.ofChange ledgerCrashWrong)

/-- 'apportionlaw28.LedgerKnown': WHATEVER THE INPUT: true; the input reads as it did. -/
def ledgerKnownSpec : ChangeSpec := { name := "ledgerKnown", fn := fun _ => fun
  | [] => { results := [.lit (.bool true)], args := [] }
  | _ => none }
def ledgerKnownRow : OpenClaim := { program := "ytdglaacjefcfdaa", sum := "e1092c103597c895839a9093dc44f39d2595731eed37a1ff25978ec678f73423", func := "apportion/apportionlaw28.LedgerKnown", spec := "ledgerKnown", inPlace := ["sync/atomic.AddInt64"], unfollowed := true, recurses := true, apart := false }
def LedgerKnownSaid : Prop := ledgerKnownRow.holds Try.pinned (OpenSpec.ofChange ledgerKnownSpec)

/-- ITS FALSE NEIGHBOUR: 'it returns false'. Refute it at one input. -/
def ledgerKnownWrong : ChangeSpec := { name := "ledgerKnown", fn := fun _ => fun
  | [] => { results := [.lit (.bool false)], args := [] }
  | _ => none }
def LedgerKnownWrongFalsely : Prop := ledgerKnownRow.holds Try.pinned (OpenSpec.ofChange ledgerKnownWrong)

/- THE SECOND FORM. 'bulk': how many values and letters a reading holds, each counted each time it is reached (what is shared counts as often as it is met; a slice's spare places count too). A statement '..UptoSaid' is the law's where the arguments, and the package variables that the reading takes, are together of bulk at most 1048576: NARROWER than '..Said'. Prove '..Said' where nothing that the law and all that it calls make is longer than what came in: it says more and counts as full. Else prove '..UptoSaid'. A law counts once. -/
mutual
def uptoBulk {H : Type} : DataW H → Nat
  | .lit (.string bytes) => bytes.length + 1
  | .lit _ => 1
  | .nil => 1
  | .ptr d => uptoBulk d + 1
  | .slice elems spare => uptoBulkAll elems + uptoBulkAll spare + 1
  | .agg parts => uptoBulkAll parts + 1
  | .iface _ d => uptoBulk d + 1
  | .map entries => uptoBulkEntries entries + 1
  | .held _ => 1
def uptoBulkAll {H : Type} : List (DataW H) → Nat
  | [] => 0
  | d :: r => uptoBulk d + uptoBulkAll r
def uptoBulkEntries {H : Type} : List (Lit × DataW H) → Nat
  | [] => 0
  | x :: r => uptoBulkEntry x + uptoBulkEntries r
def uptoBulkEntry {H : Type} : Lit × DataW H → Nat
  | (.string bytes, d) => bytes.length + uptoBulk d + 1
  | (_, d) => uptoBulk d + 1
 end
def uptoSmall : (H : Type) → List (DataW H) → Bool := fun _ ds => decide (uptoBulkAll ds ≤ 1048576)
def OpenSpec.upto (s : _root_.Go.ChangeSpec) : _root_.Go.OpenSpec := { _root_.Go.OpenSpec.ofChange s with cond := some uptoSmall }

/-- 'apportionlaw28.LedgerTurned', WHERE WHAT IT READS IS OF BULK AT MOST 1048576: true; the input reads as it did. -/
def ledgerTurnedUptoRow : OpenClaim := { program := "ytdglaacjefcfdaa", sum := "e1092c103597c895839a9093dc44f39d2595731eed37a1ff25978ec678f73423", func := "apportion/apportionlaw28.LedgerTurned", spec := "ledgerTurned", inPlace := ["sync/atomic.AddInt64"], unfollowed := true, recurses := true, apart := false, narrowed := true }
def LedgerTurnedUptoSaid : Prop := ledgerTurnedUptoRow.holds Try.pinned (OpenSpec.upto ledgerTurnedSpec)

/-- 'apportionlaw28.LedgerNone', WHERE WHAT IT READS IS OF BULK AT MOST 1048576: true; the input reads as it did. -/
def ledgerNoneUptoRow : OpenClaim := { program := "ytdglaacjefcfdaa", sum := "e1092c103597c895839a9093dc44f39d2595731eed37a1ff25978ec678f73423", func := "apportion/apportionlaw28.LedgerNone", spec := "ledgerNone", inPlace := ["sync/atomic.AddInt64"], unfollowed := true, recurses := true, apart := false, narrowed := true }
def LedgerNoneUptoSaid : Prop := ledgerNoneUptoRow.holds Try.pinned (OpenSpec.upto ledgerNoneSpec)

/-- 'apportionlaw28.LedgerTorn', WHERE WHAT IT READS IS OF BULK AT MOST 1048576: true; the input reads as it did. -/
def ledgerTornUptoRow : OpenClaim := { program := "ytdglaacjefcfdaa", sum := "e1092c103597c895839a9093dc44f39d2595731eed37a1ff25978ec678f73423", func := "apportion/apportionlaw28.LedgerTorn", spec := "ledgerTorn", inPlace := ["sync/atomic.AddInt64"], unfollowed := true, recurses := true, apart := false, narrowed := true }
def LedgerTornUptoSaid : Prop := ledgerTornUptoRow.holds Try.pinned (OpenSpec.upto ledgerTornSpec)

/-- 'apportionlaw28.LedgerCrash', WHERE WHAT IT READS IS OF BULK AT MOST 1048576: true; the input reads as it did. -/
def ledgerCrashUptoRow : OpenClaim := { program := "ytdglaacjefcfdaa", sum := "e1092c103597c895839a9093dc44f39d2595731eed37a1ff25978ec678f73423", func := "apportion/apportionlaw28.LedgerCrash", spec := "ledgerCrash", inPlace := ["sync/atomic.AddInt64"], unfollowed := true, recurses := true, apart := false, narrowed := true }
def LedgerCrashUptoSaid : Prop := ledgerCrashUptoRow.holds Try.pinned (OpenSpec.upto ledgerCrashSpec)

/-- 'apportionlaw28.LedgerKnown', WHERE WHAT IT READS IS OF BULK AT MOST 1048576: true; the input reads as it did. -/
def ledgerKnownUptoRow : OpenClaim := { program := "ytdglaacjefcfdaa", sum := "e1092c103597c895839a9093dc44f39d2595731eed37a1ff25978ec678f73423", func := "apportion/apportionlaw28.LedgerKnown", spec := "ledgerKnown", inPlace := ["sync/atomic.AddInt64"], unfollowed := true, recurses := true, apart := false, narrowed := true }
def LedgerKnownUptoSaid : Prop := ledgerKnownUptoRow.holds Try.pinned (OpenSpec.upto ledgerKnownSpec)

end Rows
end Go.Proofs.Ytdglaacjefcfdaa
