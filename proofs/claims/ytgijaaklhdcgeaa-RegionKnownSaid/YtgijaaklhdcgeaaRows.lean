/-
  No cell of these rows narrows 'for every input' (looked for: loops, veiled, ifaces, maps, wideKeys, modest, calm, conditions, laid).
  DERIVED. THE GIVEN ROWS OF THIS SEAT. 6 by the template 'for every input the law returns true; each argument reads behind the call as it read before'; 0 by the template 'total and deterministic' (their statements: YtgijaaklhdcgeaaTotals.lean).
  GIVEN WITH THE SEED: the statements are not yours to turn. If you find one false, say at which input.
  Laid BY PROGRAM, IN A SANDBOX (cutbox-rows.mjs): the forced cells as the released guide's own fill.sh prints them over the translation 6d9b94817946a906… (all of the seat's roots in one cut). By AI agents, Wed Nov 11 2026. No macro, syntax, notation, axiom, sorry.
-/
import Derived.Test.YtgijaaklhdcgeaaChecked
import GoSem.Claim
import GoSem.ClaimJoined
import GoSem.ClaimMapViews
import Derived.JoinedTies
import Derived.KernelRfl
namespace Go.Proofs.Ytgijaaklhdcgeaa
/- THE CELL 'sum', in the pinned program and in every row, IS THE sha256 OF THE DUMP (.gsa) THAT YtgijaaklhdcgeaaProg.lean LOADS. Nothing in Lean hashes anything: it is a label: what it is worth is what the hold of that sum in a sandbox is worth. -/
noncomputable def Try.pinned : Pinned := { name := "ytgijaaklhdcgeaa", sum := "6d9b94817946a906ad04bce0477e49c3810eaf7a1ed0aa7662af57d103832157", checked := Try.checked }
namespace Rows
def none {H : Type} : Left H := { results := [], args := [] }

/-- 'apportionlaw11.RegionMany': WHATEVER THE INPUT: true; the input reads as it did. -/
def regionManySpec : ChangeSpec := { name := "regionMany", fn := fun _ => fun
  | [d1, d2] => { results := [.lit (.bool true)], args := [d1, d2] }
  | _ => none }
def regionManyRow : OpenClaim := { program := "ytgijaaklhdcgeaa", sum := "6d9b94817946a906ad04bce0477e49c3810eaf7a1ed0aa7662af57d103832157", func := "apportion/apportionlaw11.RegionMany", spec := "regionMany", unfollowed := true, recurses := true, plainKeys := false, apart := false }
def RegionManySaid : Prop := regionManyRow.holds Try.pinned (OpenSpec.ofChange regionManySpec)

/-- ITS FALSE NEIGHBOUR: 'it returns false'. Refute it at one input. -/
def regionManyWrong : ChangeSpec := { name := "regionMany", fn := fun _ => fun
  | [d1, d2] => { results := [.lit (.bool false)], args := [d1, d2] }
  | _ => none }
def RegionManyWrongFalsely : Prop := regionManyRow.holds Try.pinned (OpenSpec.ofChange regionManyWrong)

/-- 'apportionlaw11.RegionHoles': WHATEVER THE INPUT: true; the input reads as it did. -/
def regionHolesSpec : ChangeSpec := { name := "regionHoles", fn := fun _ => fun
  | [d1, d2, d3] => { results := [.lit (.bool true)], args := [d1, d2, d3] }
  | _ => none }
def regionHolesRow : OpenClaim := { program := "ytgijaaklhdcgeaa", sum := "6d9b94817946a906ad04bce0477e49c3810eaf7a1ed0aa7662af57d103832157", func := "apportion/apportionlaw11.RegionHoles", spec := "regionHoles", unfollowed := true, recurses := true, plainKeys := false, apart := false }
def RegionHolesSaid : Prop := regionHolesRow.holds Try.pinned (OpenSpec.ofChange regionHolesSpec)

/-- ITS FALSE NEIGHBOUR: 'it returns false'. Refute it at one input. -/
def regionHolesWrong : ChangeSpec := { name := "regionHoles", fn := fun _ => fun
  | [d1, d2, d3] => { results := [.lit (.bool false)], args := [d1, d2, d3] }
  | _ => none }
def RegionHolesWrongFalsely : Prop := regionHolesRow.holds Try.pinned (OpenSpec.ofChange regionHolesWrong)

/-- 'apportionlaw11.RegionTiles': WHATEVER THE INPUT: true; the input reads as it did. -/
def regionTilesSpec : ChangeSpec := { name := "regionTiles", fn := fun _ => fun
  | [d1, d2, d3, d4, d5, d6] => { results := [.lit (.bool true)], args := [d1, d2, d3, d4, d5, d6] }
  | _ => none }
def regionTilesRow : OpenClaim := { program := "ytgijaaklhdcgeaa", sum := "6d9b94817946a906ad04bce0477e49c3810eaf7a1ed0aa7662af57d103832157", func := "apportion/apportionlaw11.RegionTiles", spec := "regionTiles", unfollowed := true, recurses := true, plainKeys := false, apart := false }
def RegionTilesSaid : Prop := regionTilesRow.holds Try.pinned (OpenSpec.ofChange regionTilesSpec)

/-- ITS FALSE NEIGHBOUR: 'it returns false'. Refute it at one input. -/
def regionTilesWrong : ChangeSpec := { name := "regionTiles", fn := fun _ => fun
  | [d1, d2, d3, d4, d5, d6] => { results := [.lit (.bool false)], args := [d1, d2, d3, d4, d5, d6] }
  | _ => none }
def RegionTilesWrongFalsely : Prop := regionTilesRow.holds Try.pinned (OpenSpec.ofChange regionTilesWrong)

/-- 'apportionlaw11.RegionChecks': WHATEVER THE INPUT: true; the input reads as it did. -/
def regionChecksSpec : ChangeSpec := { name := "regionChecks", fn := fun _ => fun
  | [d1, d2] => { results := [.lit (.bool true)], args := [d1, d2] }
  | _ => none }
def regionChecksRow : OpenClaim := { program := "ytgijaaklhdcgeaa", sum := "6d9b94817946a906ad04bce0477e49c3810eaf7a1ed0aa7662af57d103832157", func := "apportion/apportionlaw11.RegionChecks", spec := "regionChecks", unfollowed := true, recurses := true, plainKeys := false, apart := false }
def RegionChecksSaid : Prop := regionChecksRow.holds Try.pinned (OpenSpec.ofChange regionChecksSpec)

/-- ITS FALSE NEIGHBOUR: 'it returns false'. Refute it at one input. -/
def regionChecksWrong : ChangeSpec := { name := "regionChecks", fn := fun _ => fun
  | [d1, d2] => { results := [.lit (.bool false)], args := [d1, d2] }
  | _ => none }
def RegionChecksWrongFalsely : Prop := regionChecksRow.holds Try.pinned (OpenSpec.ofChange regionChecksWrong)

/-- 'apportionlaw11.RegionBoxes': WHATEVER THE INPUT: true; the input reads as it did. -/
def regionBoxesSpec : ChangeSpec := { name := "regionBoxes", fn := fun _ => fun
  | [d1, d2] => { results := [.lit (.bool true)], args := [d1, d2] }
  | _ => none }
def regionBoxesRow : OpenClaim := { program := "ytgijaaklhdcgeaa", sum := "6d9b94817946a906ad04bce0477e49c3810eaf7a1ed0aa7662af57d103832157", func := "apportion/apportionlaw11.RegionBoxes", spec := "regionBoxes", unfollowed := true, recurses := true, plainKeys := false, apart := false }
def RegionBoxesSaid : Prop := regionBoxesRow.holds Try.pinned (OpenSpec.ofChange regionBoxesSpec)

/-- ITS FALSE NEIGHBOUR: 'it returns false'. Refute it at one input. -/
def regionBoxesWrong : ChangeSpec := { name := "regionBoxes", fn := fun _ => fun
  | [d1, d2] => { results := [.lit (.bool false)], args := [d1, d2] }
  | _ => none }
def RegionBoxesWrongFalsely : Prop := regionBoxesRow.holds Try.pinned (OpenSpec.ofChange regionBoxesWrong)

/-- 'apportionlaw11.RegionKnown': WHATEVER THE INPUT: true; the input reads as it did. -/
def regionKnownSpec : ChangeSpec := { name := "regionKnown", fn := fun _ => fun
  | [] => { results := [.lit (.bool true)], args := [] }
  | _ => none }
def regionKnownRow : OpenClaim := { program := "ytgijaaklhdcgeaa", sum := "6d9b94817946a906ad04bce0477e49c3810eaf7a1ed0aa7662af57d103832157", func := "apportion/apportionlaw11.RegionKnown", spec := "regionKnown", unfollowed := true, recurses := true, plainKeys := false, apart := false }
def RegionKnownSaid : Prop := regionKnownRow.holds Try.pinned (OpenSpec.ofChange regionKnownSpec)

/-- ITS FALSE NEIGHBOUR: 'it returns false'. Refute it at one input. -/
def regionKnownWrong : ChangeSpec := { name := "regionKnown", fn := fun _ => fun
  | [] => { results := [.lit (.bool false)], args := [] }
  | _ => none }
def RegionKnownWrongFalsely : Prop := regionKnownRow.holds Try.pinned (OpenSpec.ofChange regionKnownWrong)

/- THE SECOND FORM. 'bulk': how many values and letters a reading holds, each counted each time it is reached (what is shared counts as often as it is met; a slice's spare places count too). A statement '..UptoSaid' is the law's where the arguments, and the package variables that the reading takes, are together of bulk at most 1048576: NARROWER than '..Said'. Prove '..Said' where nothing that the law and all that it calls make is longer than what came in: it says more and counts as full. Else prove '..UptoSaid'. A law counts once. -/
mutual
def uptoBulk {H : Type} : DataW H → Nat
  | .lit (.string bytes) => bytes.length + 1
  | .lit _ => 1
  | .nil => 1
  | .ptr d => uptoBulk d + 1
  | .slice elems spare => uptoBulkAll elems + uptoBulkAll spare + 1
  | .agg parts => uptoBulkAll parts + 1
  | .iface _ d => uptoBulk d + 1
  | .map entries => uptoBulkEntries entries + 1
  | .held _ => 1
def uptoBulkAll {H : Type} : List (DataW H) → Nat
  | [] => 0
  | d :: r => uptoBulk d + uptoBulkAll r
def uptoBulkEntries {H : Type} : List (Lit × DataW H) → Nat
  | [] => 0
  | x :: r => uptoBulkEntry x + uptoBulkEntries r
def uptoBulkEntry {H : Type} : Lit × DataW H → Nat
  | (.string bytes, d) => bytes.length + uptoBulk d + 1
  | (_, d) => uptoBulk d + 1
 end
def uptoSmall : (H : Type) → List (DataW H) → Bool := fun _ ds => decide (uptoBulkAll ds ≤ 1048576)
def OpenSpec.upto (s : _root_.Go.ChangeSpec) : _root_.Go.OpenSpec := { _root_.Go.OpenSpec.ofChange s with cond := some uptoSmall }

/-- 'apportionlaw11.RegionMany', WHERE WHAT IT READS IS OF BULK AT MOST 1048576: true; the input reads as it did. -/
def regionManyUptoRow : OpenClaim := { program := "ytgijaaklhdcgeaa", sum := "6d9b94817946a906ad04bce0477e49c3810eaf7a1ed0aa7662af57d103832157", func := "apportion/apportionlaw11.RegionMany", spec := "regionMany", unfollowed := true, recurses := true, plainKeys := false, apart := false, narrowed := true }
def RegionManyUptoSaid : Prop := regionManyUptoRow.holds Try.pinned (OpenSpec.upto regionManySpec)

/-- 'apportionlaw11.RegionHoles', WHERE WHAT IT READS IS OF BULK AT MOST 1048576: true; the input reads as it did. -/
def regionHolesUptoRow : OpenClaim := { program := "ytgijaaklhdcgeaa", sum := "6d9b94817946a906ad04bce0477e49c3810eaf7a1ed0aa7662af57d103832157", func := "apportion/apportionlaw11.RegionHoles", spec := "regionHoles", unfollowed := true, recurses := true, plainKeys := false, apart := false, narrowed := true }
def RegionHolesUptoSaid : Prop := regionHolesUptoRow.holds Try.pinned (OpenSpec.upto regionHolesSpec)

/-- 'apportionlaw11.RegionTiles', WHERE WHAT IT READS IS OF BULK AT MOST 1048576: true; the input reads as it did. -/
def regionTilesUptoRow : OpenClaim := { program := "ytgijaaklhdcgeaa", sum := "6d9b94817946a906ad04bce0477e49c3810eaf7a1ed0aa7662af57d103832157", func := "apportion/apportionlaw11.RegionTiles", spec := "regionTiles", unfollowed := true, recurses := true, plainKeys := false, apart := false, narrowed := true }
def RegionTilesUptoSaid : Prop := regionTilesUptoRow.holds Try.pinned (OpenSpec.upto regionTilesSpec)

/-- 'apportionlaw11.RegionChecks', WHERE WHAT IT READS IS OF BULK AT MOST 1048576: true; the input reads as it did. -/
def regionChecksUptoRow : OpenClaim := { program := "ytgijaaklhdcgeaa", sum := "6d9b94817946a906ad04bce0477e49c3810eaf7a1ed0aa7662af57d103832157", func := "apportion/apportionlaw11.RegionChecks", spec := "regionChecks", unfollowed := true, recurses := true, plainKeys := false, apart := false, narrowed := true }
def RegionChecksUptoSaid : Prop := regionChecksUptoRow.holds Try.pinned (OpenSpec.upto regionChecksSpec)

/-- 'apportionlaw11.RegionBoxes', WHERE WHAT IT READS IS OF BULK AT MOST 1048576: true; the input reads as it did. -/
def regionBoxesUptoRow : OpenClaim := { program := "ytgijaaklhdcgeaa", sum := "6d9b94817946a906ad04bce0477e49c3810eaf7a1ed0aa7662af57d103832157", func := "apportion/apportionlaw11.RegionBoxes", spec := "regionBoxes", unfollowed := true, recurses := true, plainKeys := false, apart := false, narrowed := true }
def RegionBoxesUptoSaid : Prop := regionBoxesUptoRow.holds Try.pinned (OpenSpec.upto regionBoxesSpec)

/-- 'apportionlaw11.RegionKnown', WHERE WHAT IT READS IS OF BULK AT MOST 1048576: true; the input reads as it did. -/
def regionKnownUptoRow : OpenClaim := { program := "ytgijaaklhdcgeaa", sum := "6d9b94817946a906ad04bce0477e49c3810eaf7a1ed0aa7662af57d103832157", func := "apportion/apportionlaw11.RegionKnown", spec := "regionKnown", unfollowed := true, recurses := true, plainKeys := false, apart := false, narrowed := true }
def RegionKnownUptoSaid : Prop := regionKnownUptoRow.holds Try.pinned (OpenSpec.upto regionKnownSpec)

end Rows
end Go.Proofs.Ytgijaaklhdcgeaa
