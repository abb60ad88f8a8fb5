/-
  No cell of these rows narrows 'for every input' (looked for: loops, veiled, ifaces, maps, wideKeys, modest, calm, conditions, laid).
  DERIVED. THE GIVEN ROWS OF THIS SEAT. 8 by the template 'for every input the law returns true; each argument reads behind the call as it read before'; 0 by the template 'total and deterministic' (their statements: YthhjmaianlmfpaaGreatTotals.lean).
  GIVEN WITH THE SEED: the statements are not yours to turn. If you find one false, say at which input.
  Laid BY PROGRAM, IN A SANDBOX (cutbox-rows.mjs): the forced cells as the released guide's own fill.sh prints them over the translation 584dbd47896261d1… (all of the seat's roots in one cut). By AI agents, Wed Nov 11 2026. No macro, syntax, notation, axiom, sorry.
-/
import Derived.Test.YthhjmaianlmfpaaGreatChecked
import GoSem.Claim
import GoSem.ClaimJoined
import GoSem.ClaimMapViews
import Derived.JoinedTies
import Derived.KernelRfl
namespace Go.Proofs.YthhjmaianlmfpaaGreat
/- THE CELL 'sum', in the pinned program and in every row, IS THE sha256 OF THE DUMP (.gsa) THAT YthhjmaianlmfpaaGreatProg.lean LOADS. Nothing in Lean hashes anything: it is a label: what it is worth is what the hold of that sum in a sandbox is worth. -/
noncomputable def Tryz.pinned : Pinned := { name := "ythhjmaianlmfpaagreat", sum := "584dbd47896261d1b8045e494f181f36f700652e4c7dfd5f701f59da62a4d9ac", checked := Tryz.checked }
namespace Rows
def none {H : Type} : Left H := { results := [], args := [] }

/-- 'laws.FnExactPullOn': WHATEVER THE INPUT: true; the input reads as it did. -/
def fnExactPullOnSpec : ChangeSpec := { name := "fnExactPullOn", fn := fun _ => fun
  | [d1, d2, d3] => { results := [.lit (.bool true)], args := [d1, d2, d3] }
  | _ => none }
def fnExactPullOnRow : OpenClaim := { program := "ythhjmaianlmfpaagreat", sum := "584dbd47896261d1b8045e494f181f36f700652e4c7dfd5f701f59da62a4d9ac", func := "loop.example/g00830/laws.FnExactPullOn", spec := "fnExactPullOn", unfollowed := true, recurses := true, apart := false }
def FnExactPullOnSaid : Prop := fnExactPullOnRow.holds Tryz.pinned (OpenSpec.ofChange fnExactPullOnSpec)

/-- ITS FALSE NEIGHBOUR: 'it returns false'. Refute it at one input. -/
def fnExactPullOnWrong : ChangeSpec := { name := "fnExactPullOn", fn := fun _ => fun
  | [d1, d2, d3] => { results := [.lit (.bool false)], args := [d1, d2, d3] }
  | _ => none }
def FnExactPullOnWrongFalsely : Prop := fnExactPullOnRow.holds Tryz.pinned (OpenSpec.ofChange fnExactPullOnWrong)

/-- 'laws.FnExactIsBalanced': WHATEVER THE INPUT: true; the input reads as it did. -/
def fnExactIsBalancedSpec : ChangeSpec := { name := "fnExactIsBalanced", fn := fun _ => fun
  | [d1, d2, d3] => { results := [.lit (.bool true)], args := [d1, d2, d3] }
  | _ => none }
def fnExactIsBalancedRow : OpenClaim := { program := "ythhjmaianlmfpaagreat", sum := "584dbd47896261d1b8045e494f181f36f700652e4c7dfd5f701f59da62a4d9ac", func := "loop.example/g00830/laws.FnExactIsBalanced", spec := "fnExactIsBalanced", unfollowed := true, recurses := true, apart := false }
def FnExactIsBalancedSaid : Prop := fnExactIsBalancedRow.holds Tryz.pinned (OpenSpec.ofChange fnExactIsBalancedSpec)

/-- ITS FALSE NEIGHBOUR: 'it returns false'. Refute it at one input. -/
def fnExactIsBalancedWrong : ChangeSpec := { name := "fnExactIsBalanced", fn := fun _ => fun
  | [d1, d2, d3] => { results := [.lit (.bool false)], args := [d1, d2, d3] }
  | _ => none }
def FnExactIsBalancedWrongFalsely : Prop := fnExactIsBalancedRow.holds Tryz.pinned (OpenSpec.ofChange fnExactIsBalancedWrong)

/-- 'laws.FnExactIsEquilibrium': WHATEVER THE INPUT: true; the input reads as it did. -/
def fnExactIsEquilibriumSpec : ChangeSpec := { name := "fnExactIsEquilibrium", fn := fun _ => fun
  | [d1, d2, d3] => { results := [.lit (.bool true)], args := [d1, d2, d3] }
  | _ => none }
def fnExactIsEquilibriumRow : OpenClaim := { program := "ythhjmaianlmfpaagreat", sum := "584dbd47896261d1b8045e494f181f36f700652e4c7dfd5f701f59da62a4d9ac", func := "loop.example/g00830/laws.FnExactIsEquilibrium", spec := "fnExactIsEquilibrium", unfollowed := true, recurses := true, apart := false }
def FnExactIsEquilibriumSaid : Prop := fnExactIsEquilibriumRow.holds Tryz.pinned (OpenSpec.ofChange fnExactIsEquilibriumSpec)

/-- ITS FALSE NEIGHBOUR: 'it returns false'. Refute it at one input. -/
def fnExactIsEquilibriumWrong : ChangeSpec := { name := "fnExactIsEquilibrium", fn := fun _ => fun
  | [d1, d2, d3] => { results := [.lit (.bool false)], args := [d1, d2, d3] }
  | _ => none }
def FnExactIsEquilibriumWrongFalsely : Prop := fnExactIsEquilibriumRow.holds Tryz.pinned (OpenSpec.ofChange fnExactIsEquilibriumWrong)

/-- 'laws.FnExactReactionAt': WHATEVER THE INPUT: true; the input reads as it did. -/
def fnExactReactionAtSpec : ChangeSpec := { name := "fnExactReactionAt", fn := fun _ => fun
  | [d1, d2, d3, d4] => { results := [.lit (.bool true)], args := [d1, d2, d3, d4] }
  | _ => none }
def fnExactReactionAtRow : OpenClaim := { program := "ythhjmaianlmfpaagreat", sum := "584dbd47896261d1b8045e494f181f36f700652e4c7dfd5f701f59da62a4d9ac", func := "loop.example/g00830/laws.FnExactReactionAt", spec := "fnExactReactionAt", unfollowed := true, recurses := true, apart := false }
def FnExactReactionAtSaid : Prop := fnExactReactionAtRow.holds Tryz.pinned (OpenSpec.ofChange fnExactReactionAtSpec)

/-- ITS FALSE NEIGHBOUR: 'it returns false'. Refute it at one input. -/
def fnExactReactionAtWrong : ChangeSpec := { name := "fnExactReactionAt", fn := fun _ => fun
  | [d1, d2, d3, d4] => { results := [.lit (.bool false)], args := [d1, d2, d3, d4] }
  | _ => none }
def FnExactReactionAtWrongFalsely : Prop := fnExactReactionAtRow.holds Tryz.pinned (OpenSpec.ofChange fnExactReactionAtWrong)

/-- 'laws.FnExactStretchOf': WHATEVER THE INPUT: true; the input reads as it did. -/
def fnExactStretchOfSpec : ChangeSpec := { name := "fnExactStretchOf", fn := fun _ => fun
  | [d1, d2, d3] => { results := [.lit (.bool true)], args := [d1, d2, d3] }
  | _ => none }
def fnExactStretchOfRow : OpenClaim := { program := "ythhjmaianlmfpaagreat", sum := "584dbd47896261d1b8045e494f181f36f700652e4c7dfd5f701f59da62a4d9ac", func := "loop.example/g00830/laws.FnExactStretchOf", spec := "fnExactStretchOf", unfollowed := true, recurses := true, apart := false }
def FnExactStretchOfSaid : Prop := fnExactStretchOfRow.holds Tryz.pinned (OpenSpec.ofChange fnExactStretchOfSpec)

/-- ITS FALSE NEIGHBOUR: 'it returns false'. Refute it at one input. -/
def fnExactStretchOfWrong : ChangeSpec := { name := "fnExactStretchOf", fn := fun _ => fun
  | [d1, d2, d3] => { results := [.lit (.bool false)], args := [d1, d2, d3] }
  | _ => none }
def FnExactStretchOfWrongFalsely : Prop := fnExactStretchOfRow.holds Tryz.pinned (OpenSpec.ofChange fnExactStretchOfWrong)

/-- 'laws.FnExactIsRefusal': WHATEVER THE INPUT: true; the input reads as it did. -/
def fnExactIsRefusalSpec : ChangeSpec := { name := "fnExactIsRefusal", fn := fun _ => fun
  | [d1, d2, d3] => { results := [.lit (.bool true)], args := [d1, d2, d3] }
  | _ => none }
def fnExactIsRefusalRow : OpenClaim := { program := "ythhjmaianlmfpaagreat", sum := "584dbd47896261d1b8045e494f181f36f700652e4c7dfd5f701f59da62a4d9ac", func := "loop.example/g00830/laws.FnExactIsRefusal", spec := "fnExactIsRefusal", unfollowed := true, recurses := true, apart := false }
def FnExactIsRefusalSaid : Prop := fnExactIsRefusalRow.holds Tryz.pinned (OpenSpec.ofChange fnExactIsRefusalSpec)

/-- ITS FALSE NEIGHBOUR: 'it returns false'. Refute it at one input. -/
def fnExactIsRefusalWrong : ChangeSpec := { name := "fnExactIsRefusal", fn := fun _ => fun
  | [d1, d2, d3] => { results := [.lit (.bool false)], args := [d1, d2, d3] }
  | _ => none }
def FnExactIsRefusalWrongFalsely : Prop := fnExactIsRefusalRow.holds Tryz.pinned (OpenSpec.ofChange fnExactIsRefusalWrong)

/-- 'laws.FnExactDensitiesFrom': WHATEVER THE INPUT: true; the input reads as it did. -/
def fnExactDensitiesFromSpec : ChangeSpec := { name := "fnExactDensitiesFrom", fn := fun _ => fun
  | [d1, d2] => { results := [.lit (.bool true)], args := [d1, d2] }
  | _ => none }
def fnExactDensitiesFromRow : OpenClaim := { program := "ythhjmaianlmfpaagreat", sum := "584dbd47896261d1b8045e494f181f36f700652e4c7dfd5f701f59da62a4d9ac", func := "loop.example/g00830/laws.FnExactDensitiesFrom", spec := "fnExactDensitiesFrom", unfollowed := true, recurses := true, apart := false }
def FnExactDensitiesFromSaid : Prop := fnExactDensitiesFromRow.holds Tryz.pinned (OpenSpec.ofChange fnExactDensitiesFromSpec)

/-- ITS FALSE NEIGHBOUR: 'it returns false'. Refute it at one input. -/
def fnExactDensitiesFromWrong : ChangeSpec := { name := "fnExactDensitiesFrom", fn := fun _ => fun
  | [d1, d2] => { results := [.lit (.bool false)], args := [d1, d2] }
  | _ => none }
def FnExactDensitiesFromWrongFalsely : Prop := fnExactDensitiesFromRow.holds Tryz.pinned (OpenSpec.ofChange fnExactDensitiesFromWrong)

/-- 'laws.FnColumns': WHATEVER THE INPUT: true; the input reads as it did. -/
def fnColumnsSpec : ChangeSpec := { name := "fnColumns", fn := fun _ => fun
  | [d] => { results := [.lit (.bool true)], args := [d] }
  | _ => none }
def fnColumnsRow : OpenClaim := { program := "ythhjmaianlmfpaagreat", sum := "584dbd47896261d1b8045e494f181f36f700652e4c7dfd5f701f59da62a4d9ac", func := "loop.example/g00830/laws.FnColumns", spec := "fnColumns", unfollowed := true, recurses := true, apart := false }
def FnColumnsSaid : Prop := fnColumnsRow.holds Tryz.pinned (OpenSpec.ofChange fnColumnsSpec)

/-- ITS FALSE NEIGHBOUR: 'it returns false'. Refute it at one input. -/
def fnColumnsWrong : ChangeSpec := { name := "fnColumns", fn := fun _ => fun
  | [d] => { results := [.lit (.bool false)], args := [d] }
  | _ => none }
def FnColumnsWrongFalsely : Prop := fnColumnsRow.holds Tryz.pinned (OpenSpec.ofChange fnColumnsWrong)

/- THE SECOND FORM. 'bulk': how many values and letters a reading holds, each counted each time it is reached (what is shared counts as often as it is met; a slice's spare places count too). A statement '..UptoSaid' is the law's where the arguments, and the package variables that the reading takes, are together of bulk at most 1048576: NARROWER than '..Said'. Prove '..Said' where nothing that the law and all that it calls make is longer than what came in: it says more and counts as full. Else prove '..UptoSaid'. A law counts once. -/
mutual
def uptoBulk {H : Type} : DataW H → Nat
  | .lit (.string bytes) => bytes.length + 1
  | .lit _ => 1
  | .nil => 1
  | .ptr d => uptoBulk d + 1
  | .slice elems spare => uptoBulkAll elems + uptoBulkAll spare + 1
  | .agg parts => uptoBulkAll parts + 1
  | .iface _ d => uptoBulk d + 1
  | .map entries => uptoBulkEntries entries + 1
  | .held _ => 1
def uptoBulkAll {H : Type} : List (DataW H) → Nat
  | [] => 0
  | d :: r => uptoBulk d + uptoBulkAll r
def uptoBulkEntries {H : Type} : List (Lit × DataW H) → Nat
  | [] => 0
  | x :: r => uptoBulkEntry x + uptoBulkEntries r
def uptoBulkEntry {H : Type} : Lit × DataW H → Nat
  | (.string bytes, d) => bytes.length + uptoBulk d + 1
  | (_, d) => uptoBulk d + 1
 end
def uptoSmall : (H : Type) → List (DataW H) → Bool := fun _ ds => decide (uptoBulkAll ds ≤ 1048576)
def OpenSpec.upto (s : _root_.Go.ChangeSpec) : _root_.Go.OpenSpec := { _root_.Go.OpenSpec.ofChange s with cond := some uptoSmall }

/-- 'laws.FnExactPullOn', WHERE WHAT IT READS IS OF BULK AT MOST 1048576: true; the input reads as it did. -/
def fnExactPullOnUptoRow : OpenClaim := { program := "ythhjmaianlmfpaagreat", sum := "584dbd47896261d1b8045e494f181f36f700652e4c7dfd5f701f59da62a4d9ac", func := "loop.example/g00830/laws.FnExactPullOn", spec := "fnExactPullOn", unfollowed := true, recurses := true, apart := false, narrowed := true }
def FnExactPullOnUptoSaid : Prop := fnExactPullOnUptoRow.holds Tryz.pinned (OpenSpec.upto fnExactPullOnSpec)

/-- 'laws.FnExactIsBalanced', WHERE WHAT IT READS IS OF BULK AT MOST 1048576: true; the input reads as it did. -/
def fnExactIsBalancedUptoRow : OpenClaim := { program := "ythhjmaianlmfpaagreat", sum := "584dbd47896261d1b8045e494f181f36f700652e4c7dfd5f701f59da62a4d9ac", func := "loop.example/g00830/laws.FnExactIsBalanced", spec := "fnExactIsBalanced", unfollowed := true, recurses := true, apart := false, narrowed := true }
def FnExactIsBalancedUptoSaid : Prop := fnExactIsBalancedUptoRow.holds Tryz.pinned (OpenSpec.upto fnExactIsBalancedSpec)

/-- 'laws.FnExactIsEquilibrium', WHERE WHAT IT READS IS OF BULK AT MOST 1048576: true; the input reads as it did. -/
def fnExactIsEquilibriumUptoRow : OpenClaim := { program := "ythhjmaianlmfpaagreat", sum := "584dbd47896261d1b8045e494f181f36f700652e4c7dfd5f701f59da62a4d9ac", func := "loop.example/g00830/laws.FnExactIsEquilibrium", spec := "fnExactIsEquilibrium", unfollowed := true, recurses := true, apart := false, narrowed := true }
def FnExactIsEquilibriumUptoSaid : Prop := fnExactIsEquilibriumUptoRow.holds Tryz.pinned (OpenSpec.upto fnExactIsEquilibriumSpec)

/-- 'laws.FnExactReactionAt', WHERE WHAT IT READS IS OF BULK AT MOST 1048576: true; the input reads as it did. -/
def fnExactReactionAtUptoRow : OpenClaim := { program := "ythhjmaianlmfpaagreat", sum := "584dbd47896261d1b8045e494f181f36f700652e4c7dfd5f701f59da62a4d9ac", func := "loop.example/g00830/laws.FnExactReactionAt", spec := "fnExactReactionAt", unfollowed := true, recurses := true, apart := false, narrowed := true }
def FnExactReactionAtUptoSaid : Prop := fnExactReactionAtUptoRow.holds Tryz.pinned (OpenSpec.upto fnExactReactionAtSpec)

/-- 'laws.FnExactStretchOf', WHERE WHAT IT READS IS OF BULK AT MOST 1048576: true; the input reads as it did. -/
def fnExactStretchOfUptoRow : OpenClaim := { program := "ythhjmaianlmfpaagreat", sum := "584dbd47896261d1b8045e494f181f36f700652e4c7dfd5f701f59da62a4d9ac", func := "loop.example/g00830/laws.FnExactStretchOf", spec := "fnExactStretchOf", unfollowed := true, recurses := true, apart := false, narrowed := true }
def FnExactStretchOfUptoSaid : Prop := fnExactStretchOfUptoRow.holds Tryz.pinned (OpenSpec.upto fnExactStretchOfSpec)

/-- 'laws.FnExactIsRefusal', WHERE WHAT IT READS IS OF BULK AT MOST 1048576: true; the input reads as it did. -/
def fnExactIsRefusalUptoRow : OpenClaim := { program := "ythhjmaianlmfpaagreat", sum := "584dbd47896261d1b8045e494f181f36f700652e4c7dfd5f701f59da62a4d9ac", func := "loop.example/g00830/laws.FnExactIsRefusal", spec := "fnExactIsRefusal", unfollowed := true, recurses := true, apart := false, narrowed := true }
def FnExactIsRefusalUptoSaid : Prop := fnExactIsRefusalUptoRow.holds Tryz.pinned (OpenSpec.upto fnExactIsRefusalSpec)

/-- 'laws.FnExactDensitiesFrom', WHERE WHAT IT READS IS OF BULK AT MOST 1048576: true; the input reads as it did. -/
def fnExactDensitiesFromUptoRow : OpenClaim := { program := "ythhjmaianlmfpaagreat", sum := "584dbd47896261d1b8045e494f181f36f700652e4c7dfd5f701f59da62a4d9ac", func := "loop.example/g00830/laws.FnExactDensitiesFrom", spec := "fnExactDensitiesFrom", unfollowed := true, recurses := true, apart := false, narrowed := true }
def FnExactDensitiesFromUptoSaid : Prop := fnExactDensitiesFromUptoRow.holds Tryz.pinned (OpenSpec.upto fnExactDensitiesFromSpec)

/-- 'laws.FnColumns', WHERE WHAT IT READS IS OF BULK AT MOST 1048576: true; the input reads as it did. -/
def fnColumnsUptoRow : OpenClaim := { program := "ythhjmaianlmfpaagreat", sum := "584dbd47896261d1b8045e494f181f36f700652e4c7dfd5f701f59da62a4d9ac", func := "loop.example/g00830/laws.FnColumns", spec := "fnColumns", unfollowed := true, recurses := true, apart := false, narrowed := true }
def FnColumnsUptoSaid : Prop := fnColumnsUptoRow.holds Tryz.pinned (OpenSpec.upto fnColumnsSpec)

end Rows
end Go.Proofs.YthhjmaianlmfpaaGreat
