/-
  No cell of these rows narrows 'for every input' (looked for: loops, veiled, ifaces, maps, wideKeys, modest, calm, conditions, laid).
  DERIVED. THE GIVEN ROWS OF THIS SEAT. 4 by the template 'for every input the law returns true; each argument reads behind the call as it read before'; 0 by the template 'total and deterministic' (their statements: YtlmimocmllhbkaaTotals.lean).
  GIVEN WITH THE SEED: the statements are not yours to turn. If you find one false, say at which input.
  Laid BY PROGRAM, IN A SANDBOX (cutbox-rows.mjs): the forced cells as the released guide's own fill.sh prints them over the translation 274c636c91202c30… (all of the seat's roots in one cut). By AI agents, Wed Nov 11 2026. No macro, syntax, notation, axiom, sorry.
-/
import Derived.Test.YtlmimocmllhbkaaChecked
import GoSem.Claim
import GoSem.ClaimJoined
import GoSem.ClaimMapViews
import Derived.JoinedTies
import Derived.KernelRfl
namespace Go.Proofs.Ytlmimocmllhbkaa
/- THE CELL 'sum', in the pinned program and in every row, IS THE sha256 OF THE DUMP (.gsa) THAT YtlmimocmllhbkaaProg.lean LOADS. Nothing in Lean hashes anything: it is a label: what it is worth is what the hold of that sum in a sandbox is worth. -/
noncomputable def Try.pinned : Pinned := { name := "ytlmimocmllhbkaa", sum := "274c636c91202c309733f78da627509caf745eea15efd3ca7ec1ea0710406d43", checked := Try.checked }
namespace Rows
def none {H : Type} : Left H := { results := [], args := [] }

/-- 'apportionlaw22.CertKnown': WHATEVER THE INPUT: true; the input reads as it did. -/
def certKnownSpec : ChangeSpec := { name := "certKnown", fn := fun _ => fun
  | [] => { results := [.lit (.bool true)], args := [] }
  | _ => none }
def certKnownRow : OpenClaim := { program := "ytlmimocmllhbkaa", sum := "274c636c91202c309733f78da627509caf745eea15efd3ca7ec1ea0710406d43", func := "apportion/apportionlaw22.CertKnown", spec := "certKnown", unfollowed := true, recurses := true, apart := false }
def CertKnownSaid : Prop := certKnownRow.holds Try.pinned (OpenSpec.ofChange certKnownSpec)

/-- ITS FALSE NEIGHBOUR: 'it returns false'. Refute it at one input. -/
def certKnownWrong : ChangeSpec := { name := "certKnown", fn := fun _ => fun
  | [] => { results := [.lit (.bool false)], args := [] }
  | _ => none }
def CertKnownWrongFalsely : Prop := certKnownRow.holds Try.pinned (OpenSpec.ofChange certKnownWrong)

/-- 'apportionlaw22.CertSorts': WHATEVER THE INPUT: true; the input reads as it did. -/
def certSortsSpec : ChangeSpec := { name := "certSorts", fn := fun _ => fun
  | [d1, d2] => { results := [.lit (.bool true)], args := [d1, d2] }
  | _ => none }
def certSortsRow : OpenClaim := { program := "ytlmimocmllhbkaa", sum := "274c636c91202c309733f78da627509caf745eea15efd3ca7ec1ea0710406d43", func := "apportion/apportionlaw22.CertSorts", spec := "certSorts", unfollowed := true, recurses := true, apart := false }
def CertSortsSaid : Prop := certSortsRow.holds Try.pinned (OpenSpec.ofChange certSortsSpec)

/-- ITS FALSE NEIGHBOUR: 'it returns false'. Refute it at one input. -/
def certSortsWrong : ChangeSpec := { name := "certSorts", fn := fun _ => fun
  | [d1, d2] => { results := [.lit (.bool false)], args := [d1, d2] }
  | _ => none }
def CertSortsWrongFalsely : Prop := certSortsRow.holds Try.pinned (OpenSpec.ofChange certSortsWrong)

/-- 'apportionlaw22.CertMore': WHATEVER THE INPUT: true; the input reads as it did. -/
def certMoreSpec : ChangeSpec := { name := "certMore", fn := fun _ => fun
  | [d1, d2, d3, d4, d5, d6] => { results := [.lit (.bool true)], args := [d1, d2, d3, d4, d5, d6] }
  | _ => none }
def certMoreRow : OpenClaim := { program := "ytlmimocmllhbkaa", sum := "274c636c91202c309733f78da627509caf745eea15efd3ca7ec1ea0710406d43", func := "apportion/apportionlaw22.CertMore", spec := "certMore", unfollowed := true, recurses := true, apart := false }
def CertMoreSaid : Prop := certMoreRow.holds Try.pinned (OpenSpec.ofChange certMoreSpec)

/-- ITS FALSE NEIGHBOUR: 'it returns false'. Refute it at one input. -/
def certMoreWrong : ChangeSpec := { name := "certMore", fn := fun _ => fun
  | [d1, d2, d3, d4, d5, d6] => { results := [.lit (.bool false)], args := [d1, d2, d3, d4, d5, d6] }
  | _ => none }
def CertMoreWrongFalsely : Prop := certMoreRow.holds Try.pinned (OpenSpec.ofChange certMoreWrong)

/-- 'apportionlaw22.CertSorted': WHATEVER THE INPUT: true; the input reads as it did. -/
def certSortedSpec : ChangeSpec := { name := "certSorted", fn := fun _ => fun
  | [d1, d2, d3, d4, d5] => { results := [.lit (.bool true)], args := [d1, d2, d3, d4, d5] }
  | _ => none }
def certSortedRow : OpenClaim := { program := "ytlmimocmllhbkaa", sum := "274c636c91202c309733f78da627509caf745eea15efd3ca7ec1ea0710406d43", func := "apportion/apportionlaw22.CertSorted", spec := "certSorted", unfollowed := true, recurses := true, apart := false }
def CertSortedSaid : Prop := certSortedRow.holds Try.pinned (OpenSpec.ofChange certSortedSpec)

/-- ITS FALSE NEIGHBOUR: 'it returns false'. Refute it at one input. -/
def certSortedWrong : ChangeSpec := { name := "certSorted", fn := fun _ => fun
  | [d1, d2, d3, d4, d5] => { results := [.lit (.bool false)], args := [d1, d2, d3, d4, d5] }
  | _ => none }
def CertSortedWrongFalsely : Prop := certSortedRow.holds Try.pinned (OpenSpec.ofChange certSortedWrong)

/- THE SECOND FORM. 'bulk': how many values and letters a reading holds, each counted each time it is reached (what is shared counts as often as it is met; a slice's spare places count too). A statement '..UptoSaid' is the law's where the arguments, and the package variables that the reading takes, are together of bulk at most 1048576: NARROWER than '..Said'. Prove '..Said' where nothing that the law and all that it calls make is longer than what came in: it says more and counts as full. Else prove '..UptoSaid'. A law counts once. -/
mutual
def uptoBulk {H : Type} : DataW H → Nat
  | .lit (.string bytes) => bytes.length + 1
  | .lit _ => 1
  | .nil => 1
  | .ptr d => uptoBulk d + 1
  | .slice elems spare => uptoBulkAll elems + uptoBulkAll spare + 1
  | .agg parts => uptoBulkAll parts + 1
  | .iface _ d => uptoBulk d + 1
  | .map entries => uptoBulkEntries entries + 1
  | .held _ => 1
def uptoBulkAll {H : Type} : List (DataW H) → Nat
  | [] => 0
  | d :: r => uptoBulk d + uptoBulkAll r
def uptoBulkEntries {H : Type} : List (Lit × DataW H) → Nat
  | [] => 0
  | x :: r => uptoBulkEntry x + uptoBulkEntries r
def uptoBulkEntry {H : Type} : Lit × DataW H → Nat
  | (.string bytes, d) => bytes.length + uptoBulk d + 1
  | (_, d) => uptoBulk d + 1
 end
def uptoSmall : (H : Type) → List (DataW H) → Bool := fun _ ds => decide (uptoBulkAll ds ≤ 1048576)
def OpenSpec.upto (s : _root_.Go.ChangeSpec) : _root_.Go.OpenSpec := { _root_.Go.OpenSpec.ofChange s with cond := some uptoSmall }

/-- 'apportionlaw22.CertKnown', WHERE WHAT IT READS IS OF BULK AT MOST 1048576: true; the input reads as it did. -/
def certKnownUptoRow : OpenClaim := { program := "ytlmimocmllhbkaa", sum := "274c636c91202c309733f78da627509caf745eea15efd3ca7ec1ea0710406d43", func := "apportion/apportionlaw22.CertKnown", spec := "certKnown", unfollowed := true, recurses := true, apart := false, narrowed := true }
def CertKnownUptoSaid : Prop := certKnownUptoRow.holds Try.pinned (OpenSpec.upto certKnownSpec)

/-- 'apportionlaw22.CertSorts', WHERE WHAT IT READS IS OF BULK AT MOST 1048576: true; the input reads as it did. -/
def certSortsUptoRow : OpenClaim := { program := "ytlmimocmllhbkaa", sum := "274c636c91202c309733f78da627509caf745eea15efd3ca7ec1ea0710406d43", func := "apportion/apportionlaw22.CertSorts", spec := "certSorts", unfollowed := true, recurses := true, apart := false, narrowed := true }
def CertSortsUptoSaid : Prop := certSortsUptoRow.holds Try.pinned (OpenSpec.upto certSortsSpec)

/-- 'apportionlaw22.CertMore', WHERE WHAT IT READS IS OF BULK AT MOST 1048576: true; the input reads as it did. -/
def certMoreUptoRow : OpenClaim := { program := "ytlmimocmllhbkaa", sum := "274c636c91202c309733f78da627509caf745eea15efd3ca7ec1ea0710406d43", func := "apportion/apportionlaw22.CertMore", spec := "certMore", unfollowed := true, recurses := true, apart := false, narrowed := true }
def CertMoreUptoSaid : Prop := certMoreUptoRow.holds Try.pinned (OpenSpec.upto certMoreSpec)

/-- 'apportionlaw22.CertSorted', WHERE WHAT IT READS IS OF BULK AT MOST 1048576: true; the input reads as it did. -/
def certSortedUptoRow : OpenClaim := { program := "ytlmimocmllhbkaa", sum := "274c636c91202c309733f78da627509caf745eea15efd3ca7ec1ea0710406d43", func := "apportion/apportionlaw22.CertSorted", spec := "certSorted", unfollowed := true, recurses := true, apart := false, narrowed := true }
def CertSortedUptoSaid : Prop := certSortedUptoRow.holds Try.pinned (OpenSpec.upto certSortedSpec)

end Rows
end Go.Proofs.Ytlmimocmllhbkaa
