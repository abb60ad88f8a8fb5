/-
  No cell of these rows narrows 'for every input' (looked for: loops, veiled, ifaces, maps, wideKeys, modest, calm, conditions, laid).
  DERIVED. THE GIVEN ROWS OF THIS SEAT. 12 by the template 'for every input the law returns true; each argument reads behind the call as it read before'; 0 by the template 'total and deterministic' (their statements: YticmgmemnpcbbaaGreatTotals.lean).
  GIVEN WITH THE SEED: the statements are not yours to turn. If you find one false, say at which input.
  Laid BY PROGRAM, IN A SANDBOX (cutbox-rows.mjs): the forced cells as the released guide's own fill.sh prints them over the translation 9516f06b97cc7de9… (all of the seat's roots in one cut). By AI agents, Wed Nov 11 2026. No macro, syntax, notation, axiom, sorry.
-/
import Derived.Test.YticmgmemnpcbbaaGreatChecked
import GoSem.Claim
import GoSem.ClaimJoined
import GoSem.ClaimMapViews
import Derived.JoinedTies
import Derived.KernelRfl
namespace Go.Proofs.YticmgmemnpcbbaaGreat
/- THE CELL 'sum', in the pinned program and in every row, IS THE sha256 OF THE DUMP (.gsa) THAT YticmgmemnpcbbaaGreatProg.lean LOADS. Nothing in Lean hashes anything: it is a label: what it is worth is what the hold of that sum in a sandbox is worth. -/
noncomputable def Tryz.pinned : Pinned := { name := "yticmgmemnpcbbaagreat", sum := "9516f06b97cc7de95dd647af0c2aed43fdfbea0ecca06ba97412d62baaef16fc", checked := Tryz.checked }
namespace Rows
def none {H : Type} : Left H := { results := [], args := [] }

/-- 'laws.FnBalanced': WHATEVER THE INPUT: true; the input reads as it did. -/
def fnBalancedSpec : ChangeSpec := { name := "fnBalanced", fn := fun _ => fun
  | [d] => { results := [.lit (.bool true)], args := [d] }
  | _ => none }
def fnBalancedRow : OpenClaim := { program := "yticmgmemnpcbbaagreat", sum := "9516f06b97cc7de95dd647af0c2aed43fdfbea0ecca06ba97412d62baaef16fc", func := "loop.example/g00830/laws.FnBalanced", spec := "fnBalanced", unfollowed := true, recurses := true, apart := false }
def FnBalancedSaid : Prop := fnBalancedRow.holds Tryz.pinned (OpenSpec.ofChange fnBalancedSpec)

/-- ITS FALSE NEIGHBOUR: 'it returns false'. Refute it at one input. -/
def fnBalancedWrong : ChangeSpec := { name := "fnBalanced", fn := fun _ => fun
  | [d] => { results := [.lit (.bool false)], args := [d] }
  | _ => none }
def FnBalancedWrongFalsely : Prop := fnBalancedRow.holds Tryz.pinned (OpenSpec.ofChange fnBalancedWrong)

/-- 'laws.FnWork': WHATEVER THE INPUT: true; the input reads as it did. -/
def fnWorkSpec : ChangeSpec := { name := "fnWork", fn := fun _ => fun
  | [d] => { results := [.lit (.bool true)], args := [d] }
  | _ => none }
def fnWorkRow : OpenClaim := { program := "yticmgmemnpcbbaagreat", sum := "9516f06b97cc7de95dd647af0c2aed43fdfbea0ecca06ba97412d62baaef16fc", func := "loop.example/g00830/laws.FnWork", spec := "fnWork", unfollowed := true, recurses := true, apart := false }
def FnWorkSaid : Prop := fnWorkRow.holds Tryz.pinned (OpenSpec.ofChange fnWorkSpec)

/-- ITS FALSE NEIGHBOUR: 'it returns false'. Refute it at one input. -/
def fnWorkWrong : ChangeSpec := { name := "fnWork", fn := fun _ => fun
  | [d] => { results := [.lit (.bool false)], args := [d] }
  | _ => none }
def FnWorkWrongFalsely : Prop := fnWorkRow.holds Tryz.pinned (OpenSpec.ofChange fnWorkWrong)

/-- 'laws.FnReactions': WHATEVER THE INPUT: true; the input reads as it did. -/
def fnReactionsSpec : ChangeSpec := { name := "fnReactions", fn := fun _ => fun
  | [d] => { results := [.lit (.bool true)], args := [d] }
  | _ => none }
def fnReactionsRow : OpenClaim := { program := "yticmgmemnpcbbaagreat", sum := "9516f06b97cc7de95dd647af0c2aed43fdfbea0ecca06ba97412d62baaef16fc", func := "loop.example/g00830/laws.FnReactions", spec := "fnReactions", unfollowed := true, recurses := true, apart := false }
def FnReactionsSaid : Prop := fnReactionsRow.holds Tryz.pinned (OpenSpec.ofChange fnReactionsSpec)

/-- ITS FALSE NEIGHBOUR: 'it returns false'. Refute it at one input. -/
def fnReactionsWrong : ChangeSpec := { name := "fnReactions", fn := fun _ => fun
  | [d] => { results := [.lit (.bool false)], args := [d] }
  | _ => none }
def FnReactionsWrongFalsely : Prop := fnReactionsRow.holds Tryz.pinned (OpenSpec.ofChange fnReactionsWrong)

/-- 'laws.FnCone': WHATEVER THE INPUT: true; the input reads as it did. -/
def fnConeSpec : ChangeSpec := { name := "fnCone", fn := fun _ => fun
  | [d] => { results := [.lit (.bool true)], args := [d] }
  | _ => none }
def fnConeRow : OpenClaim := { program := "yticmgmemnpcbbaagreat", sum := "9516f06b97cc7de95dd647af0c2aed43fdfbea0ecca06ba97412d62baaef16fc", func := "loop.example/g00830/laws.FnCone", spec := "fnCone", unfollowed := true, recurses := true, apart := false }
def FnConeSaid : Prop := fnConeRow.holds Tryz.pinned (OpenSpec.ofChange fnConeSpec)

/-- ITS FALSE NEIGHBOUR: 'it returns false'. Refute it at one input. -/
def fnConeWrong : ChangeSpec := { name := "fnCone", fn := fun _ => fun
  | [d] => { results := [.lit (.bool false)], args := [d] }
  | _ => none }
def FnConeWrongFalsely : Prop := fnConeRow.holds Tryz.pinned (OpenSpec.ofChange fnConeWrong)

/-- 'laws.FnDeterminate': WHATEVER THE INPUT: true; the input reads as it did. -/
def fnDeterminateSpec : ChangeSpec := { name := "fnDeterminate", fn := fun _ => fun
  | [d] => { results := [.lit (.bool true)], args := [d] }
  | _ => none }
def fnDeterminateRow : OpenClaim := { program := "yticmgmemnpcbbaagreat", sum := "9516f06b97cc7de95dd647af0c2aed43fdfbea0ecca06ba97412d62baaef16fc", func := "loop.example/g00830/laws.FnDeterminate", spec := "fnDeterminate", unfollowed := true, recurses := true, apart := false }
def FnDeterminateSaid : Prop := fnDeterminateRow.holds Tryz.pinned (OpenSpec.ofChange fnDeterminateSpec)

/-- ITS FALSE NEIGHBOUR: 'it returns false'. Refute it at one input. -/
def fnDeterminateWrong : ChangeSpec := { name := "fnDeterminate", fn := fun _ => fun
  | [d] => { results := [.lit (.bool false)], args := [d] }
  | _ => none }
def FnDeterminateWrongFalsely : Prop := fnDeterminateRow.holds Tryz.pinned (OpenSpec.ofChange fnDeterminateWrong)

/-- 'laws.FnExactCanCarry': WHATEVER THE INPUT: true; the input reads as it did. -/
def fnExactCanCarrySpec : ChangeSpec := { name := "fnExactCanCarry", fn := fun _ => fun
  | [d1, d2] => { results := [.lit (.bool true)], args := [d1, d2] }
  | _ => none }
def fnExactCanCarryRow : OpenClaim := { program := "yticmgmemnpcbbaagreat", sum := "9516f06b97cc7de95dd647af0c2aed43fdfbea0ecca06ba97412d62baaef16fc", func := "loop.example/g00830/laws.FnExactCanCarry", spec := "fnExactCanCarry", unfollowed := true, recurses := true, apart := false }
def FnExactCanCarrySaid : Prop := fnExactCanCarryRow.holds Tryz.pinned (OpenSpec.ofChange fnExactCanCarrySpec)

/-- ITS FALSE NEIGHBOUR: 'it returns false'. Refute it at one input. -/
def fnExactCanCarryWrong : ChangeSpec := { name := "fnExactCanCarry", fn := fun _ => fun
  | [d1, d2] => { results := [.lit (.bool false)], args := [d1, d2] }
  | _ => none }
def FnExactCanCarryWrongFalsely : Prop := fnExactCanCarryRow.holds Tryz.pinned (OpenSpec.ofChange fnExactCanCarryWrong)

/-- 'laws.FnExactCanPretension': WHATEVER THE INPUT: true; the input reads as it did. -/
def fnExactCanPretensionSpec : ChangeSpec := { name := "fnExactCanPretension", fn := fun _ => fun
  | [d] => { results := [.lit (.bool true)], args := [d] }
  | _ => none }
def fnExactCanPretensionRow : OpenClaim := { program := "yticmgmemnpcbbaagreat", sum := "9516f06b97cc7de95dd647af0c2aed43fdfbea0ecca06ba97412d62baaef16fc", func := "loop.example/g00830/laws.FnExactCanPretension", spec := "fnExactCanPretension", unfollowed := true, recurses := true, apart := false }
def FnExactCanPretensionSaid : Prop := fnExactCanPretensionRow.holds Tryz.pinned (OpenSpec.ofChange fnExactCanPretensionSpec)

/-- ITS FALSE NEIGHBOUR: 'it returns false'. Refute it at one input. -/
def fnExactCanPretensionWrong : ChangeSpec := { name := "fnExactCanPretension", fn := fun _ => fun
  | [d] => { results := [.lit (.bool false)], args := [d] }
  | _ => none }
def FnExactCanPretensionWrongFalsely : Prop := fnExactCanPretensionRow.holds Tryz.pinned (OpenSpec.ofChange fnExactCanPretensionWrong)

/-- 'laws.FnExactRangeOf': WHATEVER THE INPUT: true; the input reads as it did. -/
def fnExactRangeOfSpec : ChangeSpec := { name := "fnExactRangeOf", fn := fun _ => fun
  | [d1, d2, d3] => { results := [.lit (.bool true)], args := [d1, d2, d3] }
  | _ => none }
def fnExactRangeOfRow : OpenClaim := { program := "yticmgmemnpcbbaagreat", sum := "9516f06b97cc7de95dd647af0c2aed43fdfbea0ecca06ba97412d62baaef16fc", func := "loop.example/g00830/laws.FnExactRangeOf", spec := "fnExactRangeOf", unfollowed := true, recurses := true, apart := false }
def FnExactRangeOfSaid : Prop := fnExactRangeOfRow.holds Tryz.pinned (OpenSpec.ofChange fnExactRangeOfSpec)

/-- ITS FALSE NEIGHBOUR: 'it returns false'. Refute it at one input. -/
def fnExactRangeOfWrong : ChangeSpec := { name := "fnExactRangeOf", fn := fun _ => fun
  | [d1, d2, d3] => { results := [.lit (.bool false)], args := [d1, d2, d3] }
  | _ => none }
def FnExactRangeOfWrongFalsely : Prop := fnExactRangeOfRow.holds Tryz.pinned (OpenSpec.ofChange fnExactRangeOfWrong)

/-- 'laws.FnExactDensitiesOf': WHATEVER THE INPUT: true; the input reads as it did. -/
def fnExactDensitiesOfSpec : ChangeSpec := { name := "fnExactDensitiesOf", fn := fun _ => fun
  | [d1, d2] => { results := [.lit (.bool true)], args := [d1, d2] }
  | _ => none }
def fnExactDensitiesOfRow : OpenClaim := { program := "yticmgmemnpcbbaagreat", sum := "9516f06b97cc7de95dd647af0c2aed43fdfbea0ecca06ba97412d62baaef16fc", func := "loop.example/g00830/laws.FnExactDensitiesOf", spec := "fnExactDensitiesOf", unfollowed := true, recurses := true, apart := false }
def FnExactDensitiesOfSaid : Prop := fnExactDensitiesOfRow.holds Tryz.pinned (OpenSpec.ofChange fnExactDensitiesOfSpec)

/-- ITS FALSE NEIGHBOUR: 'it returns false'. Refute it at one input. -/
def fnExactDensitiesOfWrong : ChangeSpec := { name := "fnExactDensitiesOf", fn := fun _ => fun
  | [d1, d2] => { results := [.lit (.bool false)], args := [d1, d2] }
  | _ => none }
def FnExactDensitiesOfWrongFalsely : Prop := fnExactDensitiesOfRow.holds Tryz.pinned (OpenSpec.ofChange fnExactDensitiesOfWrong)

/-- 'laws.FnExactPretensionOf': WHATEVER THE INPUT: true; the input reads as it did. -/
def fnExactPretensionOfSpec : ChangeSpec := { name := "fnExactPretensionOf", fn := fun _ => fun
  | [d] => { results := [.lit (.bool true)], args := [d] }
  | _ => none }
def fnExactPretensionOfRow : OpenClaim := { program := "yticmgmemnpcbbaagreat", sum := "9516f06b97cc7de95dd647af0c2aed43fdfbea0ecca06ba97412d62baaef16fc", func := "loop.example/g00830/laws.FnExactPretensionOf", spec := "fnExactPretensionOf", unfollowed := true, recurses := true, apart := false }
def FnExactPretensionOfSaid : Prop := fnExactPretensionOfRow.holds Tryz.pinned (OpenSpec.ofChange fnExactPretensionOfSpec)

/-- ITS FALSE NEIGHBOUR: 'it returns false'. Refute it at one input. -/
def fnExactPretensionOfWrong : ChangeSpec := { name := "fnExactPretensionOf", fn := fun _ => fun
  | [d] => { results := [.lit (.bool false)], args := [d] }
  | _ => none }
def FnExactPretensionOfWrongFalsely : Prop := fnExactPretensionOfRow.holds Tryz.pinned (OpenSpec.ofChange fnExactPretensionOfWrong)

/-- 'laws.FnExactExtremeOf': WHATEVER THE INPUT: true; the input reads as it did. -/
def fnExactExtremeOfSpec : ChangeSpec := { name := "fnExactExtremeOf", fn := fun _ => fun
  | [d1, d2, d3, d4] => { results := [.lit (.bool true)], args := [d1, d2, d3, d4] }
  | _ => none }
def fnExactExtremeOfRow : OpenClaim := { program := "yticmgmemnpcbbaagreat", sum := "9516f06b97cc7de95dd647af0c2aed43fdfbea0ecca06ba97412d62baaef16fc", func := "loop.example/g00830/laws.FnExactExtremeOf", spec := "fnExactExtremeOf", unfollowed := true, recurses := true, apart := false }
def FnExactExtremeOfSaid : Prop := fnExactExtremeOfRow.holds Tryz.pinned (OpenSpec.ofChange fnExactExtremeOfSpec)

/-- ITS FALSE NEIGHBOUR: 'it returns false'. Refute it at one input. -/
def fnExactExtremeOfWrong : ChangeSpec := { name := "fnExactExtremeOf", fn := fun _ => fun
  | [d1, d2, d3, d4] => { results := [.lit (.bool false)], args := [d1, d2, d3, d4] }
  | _ => none }
def FnExactExtremeOfWrongFalsely : Prop := fnExactExtremeOfRow.holds Tryz.pinned (OpenSpec.ofChange fnExactExtremeOfWrong)

/-- 'laws.FnExactRefusalOf': WHATEVER THE INPUT: true; the input reads as it did. -/
def fnExactRefusalOfSpec : ChangeSpec := { name := "fnExactRefusalOf", fn := fun _ => fun
  | [d1, d2] => { results := [.lit (.bool true)], args := [d1, d2] }
  | _ => none }
def fnExactRefusalOfRow : OpenClaim := { program := "yticmgmemnpcbbaagreat", sum := "9516f06b97cc7de95dd647af0c2aed43fdfbea0ecca06ba97412d62baaef16fc", func := "loop.example/g00830/laws.FnExactRefusalOf", spec := "fnExactRefusalOf", unfollowed := true, recurses := true, apart := false }
def FnExactRefusalOfSaid : Prop := fnExactRefusalOfRow.holds Tryz.pinned (OpenSpec.ofChange fnExactRefusalOfSpec)

/-- ITS FALSE NEIGHBOUR: 'it returns false'. Refute it at one input. -/
def fnExactRefusalOfWrong : ChangeSpec := { name := "fnExactRefusalOf", fn := fun _ => fun
  | [d1, d2] => { results := [.lit (.bool false)], args := [d1, d2] }
  | _ => none }
def FnExactRefusalOfWrongFalsely : Prop := fnExactRefusalOfRow.holds Tryz.pinned (OpenSpec.ofChange fnExactRefusalOfWrong)

/- THE SECOND FORM. 'bulk': how many values and letters a reading holds, each counted each time it is reached (what is shared counts as often as it is met; a slice's spare places count too). A statement '..UptoSaid' is the law's where the arguments, and the package variables that the reading takes, are together of bulk at most 1048576: NARROWER than '..Said'. Prove '..Said' where nothing that the law and all that it calls make is longer than what came in: it says more and counts as full. Else prove '..UptoSaid'. A law counts once. -/
mutual
def uptoBulk {H : Type} : DataW H → Nat
  | .lit (.string bytes) => bytes.length + 1
  | .lit _ => 1
  | .nil => 1
  | .ptr d => uptoBulk d + 1
  | .slice elems spare => uptoBulkAll elems + uptoBulkAll spare + 1
  | .agg parts => uptoBulkAll parts + 1
  | .iface _ d => uptoBulk d + 1
  | .map entries => uptoBulkEntries entries + 1
  | .held _ => 1
def uptoBulkAll {H : Type} : List (DataW H) → Nat
  | [] => 0
  | d :: r => uptoBulk d + uptoBulkAll r
def uptoBulkEntries {H : Type} : List (Lit × DataW H) → Nat
  | [] => 0
  | x :: r => uptoBulkEntry x + uptoBulkEntries r
def uptoBulkEntry {H : Type} : Lit × DataW H → Nat
  | (.string bytes, d) => bytes.length + uptoBulk d + 1
  | (_, d) => uptoBulk d + 1
 end
def uptoSmall : (H : Type) → List (DataW H) → Bool := fun _ ds => decide (uptoBulkAll ds ≤ 1048576)
def OpenSpec.upto (s : _root_.Go.ChangeSpec) : _root_.Go.OpenSpec := { _root_.Go.OpenSpec.ofChange s with cond := some uptoSmall }

/-- 'laws.FnBalanced', WHERE WHAT IT READS IS OF BULK AT MOST 1048576: true; the input reads as it did. -/
def fnBalancedUptoRow : OpenClaim := { program := "yticmgmemnpcbbaagreat", sum := "9516f06b97cc7de95dd647af0c2aed43fdfbea0ecca06ba97412d62baaef16fc", func := "loop.example/g00830/laws.FnBalanced", spec := "fnBalanced", unfollowed := true, recurses := true, apart := false, narrowed := true }
def FnBalancedUptoSaid : Prop := fnBalancedUptoRow.holds Tryz.pinned (OpenSpec.upto fnBalancedSpec)

/-- 'laws.FnWork', WHERE WHAT IT READS IS OF BULK AT MOST 1048576: true; the input reads as it did. -/
def fnWorkUptoRow : OpenClaim := { program := "yticmgmemnpcbbaagreat", sum := "9516f06b97cc7de95dd647af0c2aed43fdfbea0ecca06ba97412d62baaef16fc", func := "loop.example/g00830/laws.FnWork", spec := "fnWork", unfollowed := true, recurses := true, apart := false, narrowed := true }
def FnWorkUptoSaid : Prop := fnWorkUptoRow.holds Tryz.pinned (OpenSpec.upto fnWorkSpec)

/-- 'laws.FnReactions', WHERE WHAT IT READS IS OF BULK AT MOST 1048576: true; the input reads as it did. -/
def fnReactionsUptoRow : OpenClaim := { program := "yticmgmemnpcbbaagreat", sum := "9516f06b97cc7de95dd647af0c2aed43fdfbea0ecca06ba97412d62baaef16fc", func := "loop.example/g00830/laws.FnReactions", spec := "fnReactions", unfollowed := true, recurses := true, apart := false, narrowed := true }
def FnReactionsUptoSaid : Prop := fnReactionsUptoRow.holds Tryz.pinned (OpenSpec.upto fnReactionsSpec)

/-- 'laws.FnCone', WHERE WHAT IT READS IS OF BULK AT MOST 1048576: true; the input reads as it did. -/
def fnConeUptoRow : OpenClaim := { program := "yticmgmemnpcbbaagreat", sum := "9516f06b97cc7de95dd647af0c2aed43fdfbea0ecca06ba97412d62baaef16fc", func := "loop.example/g00830/laws.FnCone", spec := "fnCone", unfollowed := true, recurses := true, apart := false, narrowed := true }
def FnConeUptoSaid : Prop := fnConeUptoRow.holds Tryz.pinned (OpenSpec.upto fnConeSpec)

/-- 'laws.FnDeterminate', WHERE WHAT IT READS IS OF BULK AT MOST 1048576: true; the input reads as it did. -/
def fnDeterminateUptoRow : OpenClaim := { program := "yticmgmemnpcbbaagreat", sum := "9516f06b97cc7de95dd647af0c2aed43fdfbea0ecca06ba97412d62baaef16fc", func := "loop.example/g00830/laws.FnDeterminate", spec := "fnDeterminate", unfollowed := true, recurses := true, apart := false, narrowed := true }
def FnDeterminateUptoSaid : Prop := fnDeterminateUptoRow.holds Tryz.pinned (OpenSpec.upto fnDeterminateSpec)

/-- 'laws.FnExactCanCarry', WHERE WHAT IT READS IS OF BULK AT MOST 1048576: true; the input reads as it did. -/
def fnExactCanCarryUptoRow : OpenClaim := { program := "yticmgmemnpcbbaagreat", sum := "9516f06b97cc7de95dd647af0c2aed43fdfbea0ecca06ba97412d62baaef16fc", func := "loop.example/g00830/laws.FnExactCanCarry", spec := "fnExactCanCarry", unfollowed := true, recurses := true, apart := false, narrowed := true }
def FnExactCanCarryUptoSaid : Prop := fnExactCanCarryUptoRow.holds Tryz.pinned (OpenSpec.upto fnExactCanCarrySpec)

/-- 'laws.FnExactCanPretension', WHERE WHAT IT READS IS OF BULK AT MOST 1048576: true; the input reads as it did. -/
def fnExactCanPretensionUptoRow : OpenClaim := { program := "yticmgmemnpcbbaagreat", sum := "9516f06b97cc7de95dd647af0c2aed43fdfbea0ecca06ba97412d62baaef16fc", func := "loop.example/g00830/laws.FnExactCanPretension", spec := "fnExactCanPretension", unfollowed := true, recurses := true, apart := false, narrowed := true }
def FnExactCanPretensionUptoSaid : Prop := fnExactCanPretensionUptoRow.holds Tryz.pinned (OpenSpec.upto fnExactCanPretensionSpec)

/-- 'laws.FnExactRangeOf', WHERE WHAT IT READS IS OF BULK AT MOST 1048576: true; the input reads as it did. -/
def fnExactRangeOfUptoRow : OpenClaim := { program := "yticmgmemnpcbbaagreat", sum := "9516f06b97cc7de95dd647af0c2aed43fdfbea0ecca06ba97412d62baaef16fc", func := "loop.example/g00830/laws.FnExactRangeOf", spec := "fnExactRangeOf", unfollowed := true, recurses := true, apart := false, narrowed := true }
def FnExactRangeOfUptoSaid : Prop := fnExactRangeOfUptoRow.holds Tryz.pinned (OpenSpec.upto fnExactRangeOfSpec)

/-- 'laws.FnExactDensitiesOf', WHERE WHAT IT READS IS OF BULK AT MOST 1048576: true; the input reads as it did. -/
def fnExactDensitiesOfUptoRow : OpenClaim := { program := "yticmgmemnpcbbaagreat", sum := "9516f06b97cc7de95dd647af0c2aed43fdfbea0ecca06ba97412d62baaef16fc", func := "loop.example/g00830/laws.FnExactDensitiesOf", spec := "fnExactDensitiesOf", unfollowed := true, recurses := true, apart := false, narrowed := true }
def FnExactDensitiesOfUptoSaid : Prop := fnExactDensitiesOfUptoRow.holds Tryz.pinned (OpenSpec.upto fnExactDensitiesOfSpec)

/-- 'laws.FnExactPretensionOf', WHERE WHAT IT READS IS OF BULK AT MOST 1048576: true; the input reads as it did. -/
def fnExactPretensionOfUptoRow : OpenClaim := { program := "yticmgmemnpcbbaagreat", sum := "9516f06b97cc7de95dd647af0c2aed43fdfbea0ecca06ba97412d62baaef16fc", func := "loop.example/g00830/laws.FnExactPretensionOf", spec := "fnExactPretensionOf", unfollowed := true, recurses := true, apart := false, narrowed := true }
def FnExactPretensionOfUptoSaid : Prop := fnExactPretensionOfUptoRow.holds Tryz.pinned (OpenSpec.upto fnExactPretensionOfSpec)

/-- 'laws.FnExactExtremeOf', WHERE WHAT IT READS IS OF BULK AT MOST 1048576: true; the input reads as it did. -/
def fnExactExtremeOfUptoRow : OpenClaim := { program := "yticmgmemnpcbbaagreat", sum := "9516f06b97cc7de95dd647af0c2aed43fdfbea0ecca06ba97412d62baaef16fc", func := "loop.example/g00830/laws.FnExactExtremeOf", spec := "fnExactExtremeOf", unfollowed := true, recurses := true, apart := false, narrowed := true }
def FnExactExtremeOfUptoSaid : Prop := fnExactExtremeOfUptoRow.holds Tryz.pinned (OpenSpec.upto fnExactExtremeOfSpec)

/-- 'laws.FnExactRefusalOf', WHERE WHAT IT READS IS OF BULK AT MOST 1048576: true; the input reads as it did. -/
def fnExactRefusalOfUptoRow : OpenClaim := { program := "yticmgmemnpcbbaagreat", sum := "9516f06b97cc7de95dd647af0c2aed43fdfbea0ecca06ba97412d62baaef16fc", func := "loop.example/g00830/laws.FnExactRefusalOf", spec := "fnExactRefusalOf", unfollowed := true, recurses := true, apart := false, narrowed := true }
def FnExactRefusalOfUptoSaid : Prop := fnExactRefusalOfUptoRow.holds Tryz.pinned (OpenSpec.upto fnExactRefusalOfSpec)

end Rows
end Go.Proofs.YticmgmemnpcbbaaGreat
