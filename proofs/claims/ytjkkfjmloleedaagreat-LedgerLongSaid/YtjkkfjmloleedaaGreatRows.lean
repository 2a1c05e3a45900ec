/-
  No cell of these rows narrows 'for every input' (looked for: loops, veiled, ifaces, maps, wideKeys, modest, calm, conditions, laid).
  DERIVED. THE GIVEN ROWS OF THIS SEAT. 2 by the template 'for every input the law returns true; each argument reads behind the call as it read before'; 0 by the template 'total and deterministic' (their statements: YtjkkfjmloleedaaGreatTotals.lean).
  GIVEN WITH THE SEED: the statements are not yours to turn. If you find one false, say at which input.
  Laid BY PROGRAM, IN A SANDBOX (cutbox-rows.mjs): the forced cells as the released guide's own fill.sh prints them over the translation aa80fac9881bc5c5… (all of the seat's roots in one cut). By AI agents, Wed Nov 11 2026. No macro, syntax, notation, axiom, sorry.
-/
import Derived.Test.YtjkkfjmloleedaaGreatChecked
import GoSem.Claim
import GoSem.ClaimJoined
import GoSem.ClaimMapViews
import Derived.JoinedTies
import Derived.KernelRfl
namespace Go.Proofs.YtjkkfjmloleedaaGreat
/- THE CELL 'sum', in the pinned program and in every row, IS THE sha256 OF THE DUMP (.gsa) THAT YtjkkfjmloleedaaGreatProg.lean LOADS. Nothing in Lean hashes anything: it is a label: what it is worth is what the hold of that sum in a sandbox is worth. -/
noncomputable def Tryz.pinned : Pinned := { name := "ytjkkfjmloleedaagreat", sum := "aa80fac9881bc5c53e3a6de2c6bd42dd96db9878658d4f2b944b1e778fe656d3", checked := Tryz.checked }
namespace Rows
def none {H : Type} : Left H := { results := [], args := [] }

/-- 'apportionlaw28.LedgerScript': WHATEVER THE INPUT: true; the input reads as it did. -/
def ledgerScriptSpec : ChangeSpec := { name := "ledgerScript", fn := fun _ => fun
  | [d] => { results := [.lit (.bool true)], args := [d] }
  | _ => none }
def ledgerScriptRow : OpenClaim := { program := "ytjkkfjmloleedaagreat", sum := "aa80fac9881bc5c53e3a6de2c6bd42dd96db9878658d4f2b944b1e778fe656d3", func := "apportion/apportionlaw28.LedgerScript", spec := "ledgerScript", inPlace := ["sync/atomic.AddInt64", "sync/atomic.LoadInt64"], unfollowed := true, recurses := true, apart := false }
def LedgerScriptSaid : Prop := ledgerScriptRow.holds Tryz.pinned (OpenSpec.ofChange ledgerScriptSpec)

/-- ITS FALSE NEIGHBOUR: 'it returns false'. Refute it at one input. -/
def ledgerScriptWrong : ChangeSpec := { name := "ledgerScript", fn := fun _ => fun
  | [d] => { results := [.lit (.bool false)], args := [d] }
  | _ => none }
def LedgerScriptWrongFalsely : Prop := ledgerScriptRow.holds Tryz.pinned (OpenSpec.ofChange ledgerScriptWrong)

/-- 'apportionlaw28.LedgerLong': WHATEVER THE INPUT: true; the input reads as it did. -/
def ledgerLongSpec : ChangeSpec := { name := "ledgerLong", fn := fun _ => fun
  | [d] => { results := [.lit (.bool true)], args := [d] }
  | _ => none }
def ledgerLongRow : OpenClaim := { program := "ytjkkfjmloleedaagreat", sum := "aa80fac9881bc5c53e3a6de2c6bd42dd96db9878658d4f2b944b1e778fe656d3", func := "apportion/apportionlaw28.LedgerLong", spec := "ledgerLong", inPlace := ["sync/atomic.AddInt64", "sync/atomic.LoadInt64"], unfollowed := true, recurses := true, apart := false }
def LedgerLongSaid : Prop := ledgerLongRow.holds Tryz.pinned (OpenSpec.ofChange ledgerLongSpec)

/-- ITS FALSE NEIGHBOUR: 'it returns false'. Refute it at one input. -/
def ledgerLongWrong : ChangeSpec := { name := "ledgerLong", fn := fun _ => fun
  | [d] => { results := [.lit (.bool false)], args := [d] }
  | _ => none }
def LedgerLongWrongFalsely : Prop := ledgerLongRow.holds Tryz.pinned (OpenSpec.ofChange ledgerLongWrong)

/- THE SECOND FORM. 'bulk': how many values and letters a reading holds, each counted each time it is reached (what is shared counts as often as it is met; a slice's spare places count too). A statement '..UptoSaid' is the law's where the arguments, and the package variables that the reading takes, are together of bulk at most 1048576: NARROWER than '..Said'. Prove '..Said' where nothing that the law and all that it calls make is longer than what came in: it says more and counts as full. Else prove '..UptoSaid'. A law counts once. -/
mutual
def uptoBulk {H : Type} : DataW H → Nat
  | .lit (.string bytes) => bytes.length + 1
  | .lit _ => 1
  | .nil => 1
  | .ptr d => uptoBulk d + 1
  | .slice elems spare => uptoBulkAll elems + uptoBulkAll spare + 1
  | .agg parts => uptoBulkAll parts + 1
  | .iface _ d => uptoBulk d + 1
  | .map entries => uptoBulkEntries entries + 1
  | .held _ => 1
def uptoBulkAll {H : Type} : List (DataW H) → Nat
  | [] => 0
  | d :: r => uptoBulk d + uptoBulkAll r
def uptoBulkEntries {H : Type} : List (Lit × DataW H) → Nat
  | [] => 0
  | x :: r => uptoBulkEntry x + uptoBulkEntries r
def uptoBulkEntry {H : Type} : Lit × DataW H → Nat
  | (.string bytes, d) => bytes.length + uptoBulk d + 1
  | (_, d) => uptoBulk d + 1
 end
def uptoSmall : (H : Type) → List (DataW H) → Bool := fun _ ds => decide (uptoBulkAll ds ≤ 1048576)
def OpenSpec.upto (s : _root_.Go.ChangeSpec) : _root_.Go.OpenSpec := { _root_.Go.OpenSpec.ofChange s with cond := some uptoSmall }

/-- 'apportionlaw28.LedgerScript', WHERE WHAT IT READS IS OF BULK AT MOST 1048576: true; the input reads as it did. -/
def ledgerScriptUptoRow : OpenClaim := { program := "ytjkkfjmloleedaagreat", sum := "aa80fac9881bc5c53e3a6de2c6bd42dd96db9878658d4f2b944b1e778fe656d3", func := "apportion/apportionlaw28.LedgerScript", spec := "ledgerScript", inPlace := ["sync/atomic.AddInt64", "sync/atomic.LoadInt64"], unfollowed := true, recurses := true, apart := false, narrowed := true }
def LedgerScriptUptoSaid : Prop := ledgerScriptUptoRow.holds Tryz.pinned (OpenSpec.upto ledgerScriptSpec)

/-- 'apportionlaw28.LedgerLong', WHERE WHAT IT READS IS OF BULK AT MOST 1048576: true; the input reads as it did. -/
def ledgerLongUptoRow : OpenClaim := { program := "ytjkkfjmloleedaagreat", sum := "aa80fac9881bc5c53e3a6de2c6bd42dd96db9878658d4f2b944b1e778fe656d3", func := "apportion/apportionlaw28.LedgerLong", spec := "ledgerLong", inPlace := ["sync/atomic.AddInt64", "sync/atomic.LoadInt64"], unfollowed := true, recurses := true, apart := false, narrowed := true }
def LedgerLongUptoSaid : Prop := ledgerLongUptoRow.holds Tryz.pinned (OpenSpec.upto ledgerLongSpec)

end Rows
end Go.Proofs.YtjkkfjmloleedaaGreat
