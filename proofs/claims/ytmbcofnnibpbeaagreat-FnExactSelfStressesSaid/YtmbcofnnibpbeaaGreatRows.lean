/-
  No cell of these rows narrows 'for every input' (looked for: loops, veiled, ifaces, maps, wideKeys, modest, calm, conditions, laid).
  DERIVED. THE GIVEN ROWS OF THIS SEAT. 6 by the template 'for every input the law returns true; each argument reads behind the call as it read before'; 0 by the template 'total and deterministic' (their statements: YtmbcofnnibpbeaaGreatTotals.lean).
  GIVEN WITH THE SEED: the statements are not yours to turn. If you find one false, say at which input.
  Laid BY PROGRAM, IN A SANDBOX (cutbox-rows.mjs): the forced cells as the released guide's own fill.sh prints them over the translation 97a990c6afb0784b… (all of the seat's roots in one cut). By AI agents, Wed Nov 11 2026. No macro, syntax, notation, axiom, sorry.
-/
import Derived.Test.YtmbcofnnibpbeaaGreatChecked
import GoSem.Claim
import GoSem.ClaimJoined
import GoSem.ClaimMapViews
import Derived.JoinedTies
import Derived.KernelRfl
namespace Go.Proofs.YtmbcofnnibpbeaaGreat
/- THE CELL 'sum', in the pinned program and in every row, IS THE sha256 OF THE DUMP (.gsa) THAT YtmbcofnnibpbeaaGreatProg.lean LOADS. Nothing in Lean hashes anything: it is a label: what it is worth is what the hold of that sum in a sandbox is worth. -/
noncomputable def Tryz.pinned : Pinned := { name := "ytmbcofnnibpbeaagreat", sum := "97a990c6afb0784b0b334378402973089aa6c86f8d2c4063c29366c1a6f65bfc", checked := Tryz.checked }
namespace Rows
def none {H : Type} : Left H := { results := [], args := [] }

/-- 'laws.FnColumns': WHATEVER THE INPUT: true; the input reads as it did. -/
def fnColumnsSpec : ChangeSpec := { name := "fnColumns", fn := fun _ => fun
  | [d] => { results := [.lit (.bool true)], args := [d] }
  | _ => none }
def fnColumnsRow : OpenClaim := { program := "ytmbcofnnibpbeaagreat", sum := "97a990c6afb0784b0b334378402973089aa6c86f8d2c4063c29366c1a6f65bfc", func := "loop.example/g00830/laws.FnColumns", spec := "fnColumns", unfollowed := true, recurses := true, apart := false }
def FnColumnsSaid : Prop := fnColumnsRow.holds Tryz.pinned (OpenSpec.ofChange fnColumnsSpec)

/-- ITS FALSE NEIGHBOUR: 'it returns false'. Refute it at one input. -/
def fnColumnsWrong : ChangeSpec := { name := "fnColumns", fn := fun _ => fun
  | [d] => { results := [.lit (.bool false)], args := [d] }
  | _ => none }
def FnColumnsWrongFalsely : Prop := fnColumnsRow.holds Tryz.pinned (OpenSpec.ofChange fnColumnsWrong)

/-- 'laws.FnExactSelfStresses': WHATEVER THE INPUT: true; the input reads as it did. -/
def fnExactSelfStressesSpec : ChangeSpec := { name := "fnExactSelfStresses", fn := fun _ => fun
  | [d] => { results := [.lit (.bool true)], args := [d] }
  | _ => none }
def fnExactSelfStressesRow : OpenClaim := { program := "ytmbcofnnibpbeaagreat", sum := "97a990c6afb0784b0b334378402973089aa6c86f8d2c4063c29366c1a6f65bfc", func := "loop.example/g00830/laws.FnExactSelfStresses", spec := "fnExactSelfStresses", unfollowed := true, recurses := true, apart := false }
def FnExactSelfStressesSaid : Prop := fnExactSelfStressesRow.holds Tryz.pinned (OpenSpec.ofChange fnExactSelfStressesSpec)

/-- ITS FALSE NEIGHBOUR: 'it returns false'. Refute it at one input. -/
def fnExactSelfStressesWrong : ChangeSpec := { name := "fnExactSelfStresses", fn := fun _ => fun
  | [d] => { results := [.lit (.bool false)], args := [d] }
  | _ => none }
def FnExactSelfStressesWrongFalsely : Prop := fnExactSelfStressesRow.holds Tryz.pinned (OpenSpec.ofChange fnExactSelfStressesWrong)

/-- 'laws.FnExactMechanisms': WHATEVER THE INPUT: true; the input reads as it did. -/
def fnExactMechanismsSpec : ChangeSpec := { name := "fnExactMechanisms", fn := fun _ => fun
  | [d] => { results := [.lit (.bool true)], args := [d] }
  | _ => none }
def fnExactMechanismsRow : OpenClaim := { program := "ytmbcofnnibpbeaagreat", sum := "97a990c6afb0784b0b334378402973089aa6c86f8d2c4063c29366c1a6f65bfc", func := "loop.example/g00830/laws.FnExactMechanisms", spec := "fnExactMechanisms", unfollowed := true, recurses := true, apart := false }
def FnExactMechanismsSaid : Prop := fnExactMechanismsRow.holds Tryz.pinned (OpenSpec.ofChange fnExactMechanismsSpec)

/-- ITS FALSE NEIGHBOUR: 'it returns false'. Refute it at one input. -/
def fnExactMechanismsWrong : ChangeSpec := { name := "fnExactMechanisms", fn := fun _ => fun
  | [d] => { results := [.lit (.bool false)], args := [d] }
  | _ => none }
def FnExactMechanismsWrongFalsely : Prop := fnExactMechanismsRow.holds Tryz.pinned (OpenSpec.ofChange fnExactMechanismsWrong)

/-- 'laws.FnExactIsRigid': WHATEVER THE INPUT: true; the input reads as it did. -/
def fnExactIsRigidSpec : ChangeSpec := { name := "fnExactIsRigid", fn := fun _ => fun
  | [d] => { results := [.lit (.bool true)], args := [d] }
  | _ => none }
def fnExactIsRigidRow : OpenClaim := { program := "ytmbcofnnibpbeaagreat", sum := "97a990c6afb0784b0b334378402973089aa6c86f8d2c4063c29366c1a6f65bfc", func := "loop.example/g00830/laws.FnExactIsRigid", spec := "fnExactIsRigid", unfollowed := true, recurses := true, apart := false }
def FnExactIsRigidSaid : Prop := fnExactIsRigidRow.holds Tryz.pinned (OpenSpec.ofChange fnExactIsRigidSpec)

/-- ITS FALSE NEIGHBOUR: 'it returns false'. Refute it at one input. -/
def fnExactIsRigidWrong : ChangeSpec := { name := "fnExactIsRigid", fn := fun _ => fun
  | [d] => { results := [.lit (.bool false)], args := [d] }
  | _ => none }
def FnExactIsRigidWrongFalsely : Prop := fnExactIsRigidRow.holds Tryz.pinned (OpenSpec.ofChange fnExactIsRigidWrong)

/-- 'laws.FnExactIsDeterminate': WHATEVER THE INPUT: true; the input reads as it did. -/
def fnExactIsDeterminateSpec : ChangeSpec := { name := "fnExactIsDeterminate", fn := fun _ => fun
  | [d] => { results := [.lit (.bool true)], args := [d] }
  | _ => none }
def fnExactIsDeterminateRow : OpenClaim := { program := "ytmbcofnnibpbeaagreat", sum := "97a990c6afb0784b0b334378402973089aa6c86f8d2c4063c29366c1a6f65bfc", func := "loop.example/g00830/laws.FnExactIsDeterminate", spec := "fnExactIsDeterminate", unfollowed := true, recurses := true, apart := false }
def FnExactIsDeterminateSaid : Prop := fnExactIsDeterminateRow.holds Tryz.pinned (OpenSpec.ofChange fnExactIsDeterminateSpec)

/-- ITS FALSE NEIGHBOUR: 'it returns false'. Refute it at one input. -/
def fnExactIsDeterminateWrong : ChangeSpec := { name := "fnExactIsDeterminate", fn := fun _ => fun
  | [d] => { results := [.lit (.bool false)], args := [d] }
  | _ => none }
def FnExactIsDeterminateWrongFalsely : Prop := fnExactIsDeterminateRow.holds Tryz.pinned (OpenSpec.ofChange fnExactIsDeterminateWrong)

/-- 'laws.FnModes': WHATEVER THE INPUT: true; the input reads as it did. -/
def fnModesSpec : ChangeSpec := { name := "fnModes", fn := fun _ => fun
  | [d] => { results := [.lit (.bool true)], args := [d] }
  | _ => none }
def fnModesRow : OpenClaim := { program := "ytmbcofnnibpbeaagreat", sum := "97a990c6afb0784b0b334378402973089aa6c86f8d2c4063c29366c1a6f65bfc", func := "loop.example/g00830/laws.FnModes", spec := "fnModes", unfollowed := true, recurses := true, apart := false }
def FnModesSaid : Prop := fnModesRow.holds Tryz.pinned (OpenSpec.ofChange fnModesSpec)

/-- ITS FALSE NEIGHBOUR: 'it returns false'. Refute it at one input. -/
def fnModesWrong : ChangeSpec := { name := "fnModes", fn := fun _ => fun
  | [d] => { results := [.lit (.bool false)], args := [d] }
  | _ => none }
def FnModesWrongFalsely : Prop := fnModesRow.holds Tryz.pinned (OpenSpec.ofChange fnModesWrong)

/- THE SECOND FORM. 'bulk': how many values and letters a reading holds, each counted each time it is reached (what is shared counts as often as it is met; a slice's spare places count too). A statement '..UptoSaid' is the law's where the arguments, and the package variables that the reading takes, are together of bulk at most 1048576: NARROWER than '..Said'. Prove '..Said' where nothing that the law and all that it calls make is longer than what came in: it says more and counts as full. Else prove '..UptoSaid'. A law counts once. -/
mutual
def uptoBulk {H : Type} : DataW H → Nat
  | .lit (.string bytes) => bytes.length + 1
  | .lit _ => 1
  | .nil => 1
  | .ptr d => uptoBulk d + 1
  | .slice elems spare => uptoBulkAll elems + uptoBulkAll spare + 1
  | .agg parts => uptoBulkAll parts + 1
  | .iface _ d => uptoBulk d + 1
  | .map entries => uptoBulkEntries entries + 1
  | .held _ => 1
def uptoBulkAll {H : Type} : List (DataW H) → Nat
  | [] => 0
  | d :: r => uptoBulk d + uptoBulkAll r
def uptoBulkEntries {H : Type} : List (Lit × DataW H) → Nat
  | [] => 0
  | x :: r => uptoBulkEntry x + uptoBulkEntries r
def uptoBulkEntry {H : Type} : Lit × DataW H → Nat
  | (.string bytes, d) => bytes.length + uptoBulk d + 1
  | (_, d) => uptoBulk d + 1
 end
def uptoSmall : (H : Type) → List (DataW H) → Bool := fun _ ds => decide (uptoBulkAll ds ≤ 1048576)
def OpenSpec.upto (s : _root_.Go.ChangeSpec) : _root_.Go.OpenSpec := { _root_.Go.OpenSpec.ofChange s with cond := some uptoSmall }

/-- 'laws.FnColumns', WHERE WHAT IT READS IS OF BULK AT MOST 1048576: true; the input reads as it did. -/
def fnColumnsUptoRow : OpenClaim := { program := "ytmbcofnnibpbeaagreat", sum := "97a990c6afb0784b0b334378402973089aa6c86f8d2c4063c29366c1a6f65bfc", func := "loop.example/g00830/laws.FnColumns", spec := "fnColumns", unfollowed := true, recurses := true, apart := false, narrowed := true }
def FnColumnsUptoSaid : Prop := fnColumnsUptoRow.holds Tryz.pinned (OpenSpec.upto fnColumnsSpec)

/-- 'laws.FnExactSelfStresses', WHERE WHAT IT READS IS OF BULK AT MOST 1048576: true; the input reads as it did. -/
def fnExactSelfStressesUptoRow : OpenClaim := { program := "ytmbcofnnibpbeaagreat", sum := "97a990c6afb0784b0b334378402973089aa6c86f8d2c4063c29366c1a6f65bfc", func := "loop.example/g00830/laws.FnExactSelfStresses", spec := "fnExactSelfStresses", unfollowed := true, recurses := true, apart := false, narrowed := true }
def FnExactSelfStressesUptoSaid : Prop := fnExactSelfStressesUptoRow.holds Tryz.pinned (OpenSpec.upto fnExactSelfStressesSpec)

/-- 'laws.FnExactMechanisms', WHERE WHAT IT READS IS OF BULK AT MOST 1048576: true; the input reads as it did. -/
def fnExactMechanismsUptoRow : OpenClaim := { program := "ytmbcofnnibpbeaagreat", sum := "97a990c6afb0784b0b334378402973089aa6c86f8d2c4063c29366c1a6f65bfc", func := "loop.example/g00830/laws.FnExactMechanisms", spec := "fnExactMechanisms", unfollowed := true, recurses := true, apart := false, narrowed := true }
def FnExactMechanismsUptoSaid : Prop := fnExactMechanismsUptoRow.holds Tryz.pinned (OpenSpec.upto fnExactMechanismsSpec)

/-- 'laws.FnExactIsRigid', WHERE WHAT IT READS IS OF BULK AT MOST 1048576: true; the input reads as it did. -/
def fnExactIsRigidUptoRow : OpenClaim := { program := "ytmbcofnnibpbeaagreat", sum := "97a990c6afb0784b0b334378402973089aa6c86f8d2c4063c29366c1a6f65bfc", func := "loop.example/g00830/laws.FnExactIsRigid", spec := "fnExactIsRigid", unfollowed := true, recurses := true, apart := false, narrowed := true }
def FnExactIsRigidUptoSaid : Prop := fnExactIsRigidUptoRow.holds Tryz.pinned (OpenSpec.upto fnExactIsRigidSpec)

/-- 'laws.FnExactIsDeterminate', WHERE WHAT IT READS IS OF BULK AT MOST 1048576: true; the input reads as it did. -/
def fnExactIsDeterminateUptoRow : OpenClaim := { program := "ytmbcofnnibpbeaagreat", sum := "97a990c6afb0784b0b334378402973089aa6c86f8d2c4063c29366c1a6f65bfc", func := "loop.example/g00830/laws.FnExactIsDeterminate", spec := "fnExactIsDeterminate", unfollowed := true, recurses := true, apart := false, narrowed := true }
def FnExactIsDeterminateUptoSaid : Prop := fnExactIsDeterminateUptoRow.holds Tryz.pinned (OpenSpec.upto fnExactIsDeterminateSpec)

/-- 'laws.FnModes', WHERE WHAT IT READS IS OF BULK AT MOST 1048576: true; the input reads as it did. -/
def fnModesUptoRow : OpenClaim := { program := "ytmbcofnnibpbeaagreat", sum := "97a990c6afb0784b0b334378402973089aa6c86f8d2c4063c29366c1a6f65bfc", func := "loop.example/g00830/laws.FnModes", spec := "fnModes", unfollowed := true, recurses := true, apart := false, narrowed := true }
def FnModesUptoSaid : Prop := fnModesUptoRow.holds Tryz.pinned (OpenSpec.upto fnModesSpec)

end Rows
end Go.Proofs.YtmbcofnnibpbeaaGreat
