/-
  No cell of these rows narrows 'for every input' (looked for: loops, veiled, ifaces, maps, wideKeys, modest, calm, conditions, laid).
  DERIVED. THE GIVEN ROWS OF THIS SEAT. 19 by the template 'for every input the law returns true; each argument reads behind the call as it read before'; 0 by the template 'total and deterministic' (their statements: YtpkphjoobeacfaaTotals.lean).
  GIVEN WITH THE SEED: the statements are not yours to turn. If you find one false, say at which input.
  Laid BY PROGRAM, IN A SANDBOX (cutbox-rows.mjs): the forced cells as the released guide's own fill.sh prints them over the translation 4690dadd3e866edd… (all of the seat's roots in one cut). By AI agents, Wed Nov 11 2026. No macro, syntax, notation, axiom, sorry.
-/
import Derived.Test.YtpkphjoobeacfaaChecked
import GoSem.Claim
import GoSem.ClaimJoined
import GoSem.ClaimMapViews
import Derived.JoinedTies
import Derived.KernelRfl
namespace Go.Proofs.Ytpkphjoobeacfaa
/- THE CELL 'sum', in the pinned program and in every row, IS THE sha256 OF THE DUMP (.gsa) THAT YtpkphjoobeacfaaProg.lean LOADS. Nothing in Lean hashes anything: it is a label: what it is worth is what the hold of that sum in a sandbox is worth. -/
noncomputable def Try.pinned : Pinned := { name := "ytpkphjoobeacfaa", sum := "4690dadd3e866eddf0691f4bf141f398add4a8e34c31b0bab2838866c83d12ef", checked := Try.checked }
namespace Rows
def none {H : Type} : Left H := { results := [], args := [] }

/-- 'laws.FnExactKindName': WHATEVER THE INPUT: true; the input reads as it did. -/
def fnExactKindNameSpec : ChangeSpec := { name := "fnExactKindName", fn := fun _ => fun
  | [d] => { results := [.lit (.bool true)], args := [d] }
  | _ => none }
def fnExactKindNameRow : OpenClaim := { program := "ytpkphjoobeacfaa", sum := "4690dadd3e866eddf0691f4bf141f398add4a8e34c31b0bab2838866c83d12ef", func := "loop.example/g00830/laws.FnExactKindName", spec := "fnExactKindName", apart := false }
def FnExactKindNameSaid : Prop := fnExactKindNameRow.holds Try.pinned (OpenSpec.ofChange fnExactKindNameSpec)

/-- ITS FALSE NEIGHBOUR: 'it returns false'. Refute it at one input. -/
def fnExactKindNameWrong : ChangeSpec := { name := "fnExactKindName", fn := fun _ => fun
  | [d] => { results := [.lit (.bool false)], args := [d] }
  | _ => none }
def FnExactKindNameWrongFalsely : Prop := fnExactKindNameRow.holds Try.pinned (OpenSpec.ofChange fnExactKindNameWrong)

/-- 'laws.FnExactJointOk': WHATEVER THE INPUT: true; the input reads as it did. -/
def fnExactJointOkSpec : ChangeSpec := { name := "fnExactJointOk", fn := fun _ => fun
  | [d] => { results := [.lit (.bool true)], args := [d] }
  | _ => none }
def fnExactJointOkRow : OpenClaim := { program := "ytpkphjoobeacfaa", sum := "4690dadd3e866eddf0691f4bf141f398add4a8e34c31b0bab2838866c83d12ef", func := "loop.example/g00830/laws.FnExactJointOk", spec := "fnExactJointOk", apart := false }
def FnExactJointOkSaid : Prop := fnExactJointOkRow.holds Try.pinned (OpenSpec.ofChange fnExactJointOkSpec)

/-- ITS FALSE NEIGHBOUR: 'it returns false'. Refute it at one input. -/
def fnExactJointOkWrong : ChangeSpec := { name := "fnExactJointOk", fn := fun _ => fun
  | [d] => { results := [.lit (.bool false)], args := [d] }
  | _ => none }
def FnExactJointOkWrongFalsely : Prop := fnExactJointOkRow.holds Try.pinned (OpenSpec.ofChange fnExactJointOkWrong)

/-- 'laws.FnExactSameLoads': WHATEVER THE INPUT: true; the input reads as it did. -/
def fnExactSameLoadsSpec : ChangeSpec := { name := "fnExactSameLoads", fn := fun _ => fun
  | [d1, d2] => { results := [.lit (.bool true)], args := [d1, d2] }
  | _ => none }
def fnExactSameLoadsRow : OpenClaim := { program := "ytpkphjoobeacfaa", sum := "4690dadd3e866eddf0691f4bf141f398add4a8e34c31b0bab2838866c83d12ef", func := "loop.example/g00830/laws.FnExactSameLoads", spec := "fnExactSameLoads", apart := false }
def FnExactSameLoadsSaid : Prop := fnExactSameLoadsRow.holds Try.pinned (OpenSpec.ofChange fnExactSameLoadsSpec)

/-- ITS FALSE NEIGHBOUR: 'it returns false'. Refute it at one input. -/
def fnExactSameLoadsWrong : ChangeSpec := { name := "fnExactSameLoads", fn := fun _ => fun
  | [d1, d2] => { results := [.lit (.bool false)], args := [d1, d2] }
  | _ => none }
def FnExactSameLoadsWrongFalsely : Prop := fnExactSameLoadsRow.holds Try.pinned (OpenSpec.ofChange fnExactSameLoadsWrong)

/-- 'laws.FnExactJointNamed': WHATEVER THE INPUT: true; the input reads as it did. -/
def fnExactJointNamedSpec : ChangeSpec := { name := "fnExactJointNamed", fn := fun _ => fun
  | [d1, d2] => { results := [.lit (.bool true)], args := [d1, d2] }
  | _ => none }
def fnExactJointNamedRow : OpenClaim := { program := "ytpkphjoobeacfaa", sum := "4690dadd3e866eddf0691f4bf141f398add4a8e34c31b0bab2838866c83d12ef", func := "loop.example/g00830/laws.FnExactJointNamed", spec := "fnExactJointNamed", unfollowed := true, recurses := true, apart := false }
def FnExactJointNamedSaid : Prop := fnExactJointNamedRow.holds Try.pinned (OpenSpec.ofChange fnExactJointNamedSpec)

/-- ITS FALSE NEIGHBOUR: 'it returns false'. Refute it at one input. -/
def fnExactJointNamedWrong : ChangeSpec := { name := "fnExactJointNamed", fn := fun _ => fun
  | [d1, d2] => { results := [.lit (.bool false)], args := [d1, d2] }
  | _ => none }
def FnExactJointNamedWrongFalsely : Prop := fnExactJointNamedRow.holds Try.pinned (OpenSpec.ofChange fnExactJointNamedWrong)

/-- 'laws.FnExactSameStructures': WHATEVER THE INPUT: true; the input reads as it did. -/
def fnExactSameStructuresSpec : ChangeSpec := { name := "fnExactSameStructures", fn := fun _ => fun
  | [d1, d2] => { results := [.lit (.bool true)], args := [d1, d2] }
  | _ => none }
def fnExactSameStructuresRow : OpenClaim := { program := "ytpkphjoobeacfaa", sum := "4690dadd3e866eddf0691f4bf141f398add4a8e34c31b0bab2838866c83d12ef", func := "loop.example/g00830/laws.FnExactSameStructures", spec := "fnExactSameStructures", apart := false }
def FnExactSameStructuresSaid : Prop := fnExactSameStructuresRow.holds Try.pinned (OpenSpec.ofChange fnExactSameStructuresSpec)

/-- ITS FALSE NEIGHBOUR: 'it returns false'. Refute it at one input. -/
def fnExactSameStructuresWrong : ChangeSpec := { name := "fnExactSameStructures", fn := fun _ => fun
  | [d1, d2] => { results := [.lit (.bool false)], args := [d1, d2] }
  | _ => none }
def FnExactSameStructuresWrongFalsely : Prop := fnExactSameStructuresRow.holds Try.pinned (OpenSpec.ofChange fnExactSameStructuresWrong)

/-- 'laws.FnMixed': WHATEVER THE INPUT: true; the input reads as it did. -/
def fnMixedSpec : ChangeSpec := { name := "fnMixed", fn := fun _ => fun
  | [d] => { results := [.lit (.bool true)], args := [d] }
  | _ => none }
def fnMixedRow : OpenClaim := { program := "ytpkphjoobeacfaa", sum := "4690dadd3e866eddf0691f4bf141f398add4a8e34c31b0bab2838866c83d12ef", func := "loop.example/g00830/laws.FnMixed", spec := "fnMixed", unfollowed := true, recurses := true, apart := false }
def FnMixedSaid : Prop := fnMixedRow.holds Try.pinned (OpenSpec.ofChange fnMixedSpec)

/-- ITS FALSE NEIGHBOUR: 'it returns false'. Refute it at one input. -/
def fnMixedWrong : ChangeSpec := { name := "fnMixed", fn := fun _ => fun
  | [d] => { results := [.lit (.bool false)], args := [d] }
  | _ => none }
def FnMixedWrongFalsely : Prop := fnMixedRow.holds Try.pinned (OpenSpec.ofChange fnMixedWrong)

/-- 'laws.FnExactStructureOk': WHATEVER THE INPUT: true; the input reads as it did. -/
def fnExactStructureOkSpec : ChangeSpec := { name := "fnExactStructureOk", fn := fun _ => fun
  | [d] => { results := [.lit (.bool true)], args := [d] }
  | _ => none }
def fnExactStructureOkRow : OpenClaim := { program := "ytpkphjoobeacfaa", sum := "4690dadd3e866eddf0691f4bf141f398add4a8e34c31b0bab2838866c83d12ef", func := "loop.example/g00830/laws.FnExactStructureOk", spec := "fnExactStructureOk", unfollowed := true, recurses := true, apart := false }
def FnExactStructureOkSaid : Prop := fnExactStructureOkRow.holds Try.pinned (OpenSpec.ofChange fnExactStructureOkSpec)

/-- ITS FALSE NEIGHBOUR: 'it returns false'. Refute it at one input. -/
def fnExactStructureOkWrong : ChangeSpec := { name := "fnExactStructureOk", fn := fun _ => fun
  | [d] => { results := [.lit (.bool false)], args := [d] }
  | _ => none }
def FnExactStructureOkWrongFalsely : Prop := fnExactStructureOkRow.holds Try.pinned (OpenSpec.ofChange fnExactStructureOkWrong)

/-- 'laws.FnExactVectorOf': WHATEVER THE INPUT: true; the input reads as it did. -/
def fnExactVectorOfSpec : ChangeSpec := { name := "fnExactVectorOf", fn := fun _ => fun
  | [d1, d2] => { results := [.lit (.bool true)], args := [d1, d2] }
  | _ => none }
def fnExactVectorOfRow : OpenClaim := { program := "ytpkphjoobeacfaa", sum := "4690dadd3e866eddf0691f4bf141f398add4a8e34c31b0bab2838866c83d12ef", func := "loop.example/g00830/laws.FnExactVectorOf", spec := "fnExactVectorOf", unfollowed := true, recurses := true, apart := false }
def FnExactVectorOfSaid : Prop := fnExactVectorOfRow.holds Try.pinned (OpenSpec.ofChange fnExactVectorOfSpec)

/-- ITS FALSE NEIGHBOUR: 'it returns false'. Refute it at one input. -/
def fnExactVectorOfWrong : ChangeSpec := { name := "fnExactVectorOf", fn := fun _ => fun
  | [d1, d2] => { results := [.lit (.bool false)], args := [d1, d2] }
  | _ => none }
def FnExactVectorOfWrongFalsely : Prop := fnExactVectorOfRow.holds Try.pinned (OpenSpec.ofChange fnExactVectorOfWrong)

/-- 'laws.FnExactDegreeOf': WHATEVER THE INPUT: true; the input reads as it did. -/
def fnExactDegreeOfSpec : ChangeSpec := { name := "fnExactDegreeOf", fn := fun _ => fun
  | [d] => { results := [.lit (.bool true)], args := [d] }
  | _ => none }
def fnExactDegreeOfRow : OpenClaim := { program := "ytpkphjoobeacfaa", sum := "4690dadd3e866eddf0691f4bf141f398add4a8e34c31b0bab2838866c83d12ef", func := "loop.example/g00830/laws.FnExactDegreeOf", spec := "fnExactDegreeOf", unfollowed := true, recurses := true, apart := false }
def FnExactDegreeOfSaid : Prop := fnExactDegreeOfRow.holds Try.pinned (OpenSpec.ofChange fnExactDegreeOfSpec)

/-- ITS FALSE NEIGHBOUR: 'it returns false'. Refute it at one input. -/
def fnExactDegreeOfWrong : ChangeSpec := { name := "fnExactDegreeOf", fn := fun _ => fun
  | [d] => { results := [.lit (.bool false)], args := [d] }
  | _ => none }
def FnExactDegreeOfWrongFalsely : Prop := fnExactDegreeOfRow.holds Try.pinned (OpenSpec.ofChange fnExactDegreeOfWrong)

/-- 'laws.FnExactSquareOf': WHATEVER THE INPUT: true; the input reads as it did. -/
def fnExactSquareOfSpec : ChangeSpec := { name := "fnExactSquareOf", fn := fun _ => fun
  | [d1, d2] => { results := [.lit (.bool true)], args := [d1, d2] }
  | _ => none }
def fnExactSquareOfRow : OpenClaim := { program := "ytpkphjoobeacfaa", sum := "4690dadd3e866eddf0691f4bf141f398add4a8e34c31b0bab2838866c83d12ef", func := "loop.example/g00830/laws.FnExactSquareOf", spec := "fnExactSquareOf", unfollowed := true, recurses := true, apart := false }
def FnExactSquareOfSaid : Prop := fnExactSquareOfRow.holds Try.pinned (OpenSpec.ofChange fnExactSquareOfSpec)

/-- ITS FALSE NEIGHBOUR: 'it returns false'. Refute it at one input. -/
def fnExactSquareOfWrong : ChangeSpec := { name := "fnExactSquareOf", fn := fun _ => fun
  | [d1, d2] => { results := [.lit (.bool false)], args := [d1, d2] }
  | _ => none }
def FnExactSquareOfWrongFalsely : Prop := fnExactSquareOfRow.holds Try.pinned (OpenSpec.ofChange fnExactSquareOfWrong)

/-- 'laws.FnExactLoadOk': WHATEVER THE INPUT: true; the input reads as it did. -/
def fnExactLoadOkSpec : ChangeSpec := { name := "fnExactLoadOk", fn := fun _ => fun
  | [d1, d2] => { results := [.lit (.bool true)], args := [d1, d2] }
  | _ => none }
def fnExactLoadOkRow : OpenClaim := { program := "ytpkphjoobeacfaa", sum := "4690dadd3e866eddf0691f4bf141f398add4a8e34c31b0bab2838866c83d12ef", func := "loop.example/g00830/laws.FnExactLoadOk", spec := "fnExactLoadOk", unfollowed := true, recurses := true, apart := false }
def FnExactLoadOkSaid : Prop := fnExactLoadOkRow.holds Try.pinned (OpenSpec.ofChange fnExactLoadOkSpec)

/-- ITS FALSE NEIGHBOUR: 'it returns false'. Refute it at one input. -/
def fnExactLoadOkWrong : ChangeSpec := { name := "fnExactLoadOk", fn := fun _ => fun
  | [d1, d2] => { results := [.lit (.bool false)], args := [d1, d2] }
  | _ => none }
def FnExactLoadOkWrongFalsely : Prop := fnExactLoadOkRow.holds Try.pinned (OpenSpec.ofChange fnExactLoadOkWrong)

/-- 'laws.FnExactMomentOf': WHATEVER THE INPUT: true; the input reads as it did. -/
def fnExactMomentOfSpec : ChangeSpec := { name := "fnExactMomentOf", fn := fun _ => fun
  | [d1, d2, d3, d4] => { results := [.lit (.bool true)], args := [d1, d2, d3, d4] }
  | _ => none }
def fnExactMomentOfRow : OpenClaim := { program := "ytpkphjoobeacfaa", sum := "4690dadd3e866eddf0691f4bf141f398add4a8e34c31b0bab2838866c83d12ef", func := "loop.example/g00830/laws.FnExactMomentOf", spec := "fnExactMomentOf", unfollowed := true, recurses := true, apart := false }
def FnExactMomentOfSaid : Prop := fnExactMomentOfRow.holds Try.pinned (OpenSpec.ofChange fnExactMomentOfSpec)

/-- ITS FALSE NEIGHBOUR: 'it returns false'. Refute it at one input. -/
def fnExactMomentOfWrong : ChangeSpec := { name := "fnExactMomentOf", fn := fun _ => fun
  | [d1, d2, d3, d4] => { results := [.lit (.bool false)], args := [d1, d2, d3, d4] }
  | _ => none }
def FnExactMomentOfWrongFalsely : Prop := fnExactMomentOfRow.holds Try.pinned (OpenSpec.ofChange fnExactMomentOfWrong)

/-- 'laws.FnExactTotalOf': WHATEVER THE INPUT: true; the input reads as it did. -/
def fnExactTotalOfSpec : ChangeSpec := { name := "fnExactTotalOf", fn := fun _ => fun
  | [d1, d2] => { results := [.lit (.bool true)], args := [d1, d2] }
  | _ => none }
def fnExactTotalOfRow : OpenClaim := { program := "ytpkphjoobeacfaa", sum := "4690dadd3e866eddf0691f4bf141f398add4a8e34c31b0bab2838866c83d12ef", func := "loop.example/g00830/laws.FnExactTotalOf", spec := "fnExactTotalOf", unfollowed := true, recurses := true, apart := false }
def FnExactTotalOfSaid : Prop := fnExactTotalOfRow.holds Try.pinned (OpenSpec.ofChange fnExactTotalOfSpec)

/-- ITS FALSE NEIGHBOUR: 'it returns false'. Refute it at one input. -/
def fnExactTotalOfWrong : ChangeSpec := { name := "fnExactTotalOf", fn := fun _ => fun
  | [d1, d2] => { results := [.lit (.bool false)], args := [d1, d2] }
  | _ => none }
def FnExactTotalOfWrongFalsely : Prop := fnExactTotalOfRow.holds Try.pinned (OpenSpec.ofChange fnExactTotalOfWrong)

/-- 'laws.FnExactWithoutMembers': WHATEVER THE INPUT: true; the input reads as it did. -/
def fnExactWithoutMembersSpec : ChangeSpec := { name := "fnExactWithoutMembers", fn := fun _ => fun
  | [d1, d2] => { results := [.lit (.bool true)], args := [d1, d2] }
  | _ => none }
def fnExactWithoutMembersRow : OpenClaim := { program := "ytpkphjoobeacfaa", sum := "4690dadd3e866eddf0691f4bf141f398add4a8e34c31b0bab2838866c83d12ef", func := "loop.example/g00830/laws.FnExactWithoutMembers", spec := "fnExactWithoutMembers", apart := false }
def FnExactWithoutMembersSaid : Prop := fnExactWithoutMembersRow.holds Try.pinned (OpenSpec.ofChange fnExactWithoutMembersSpec)

/-- ITS FALSE NEIGHBOUR: 'it returns false'. Refute it at one input. -/
def fnExactWithoutMembersWrong : ChangeSpec := { name := "fnExactWithoutMembers", fn := fun _ => fun
  | [d1, d2] => { results := [.lit (.bool false)], args := [d1, d2] }
  | _ => none }
def FnExactWithoutMembersWrongFalsely : Prop := fnExactWithoutMembersRow.holds Try.pinned (OpenSpec.ofChange fnExactWithoutMembersWrong)

/-- 'laws.FnExactNoLoad': WHATEVER THE INPUT: true; the input reads as it did. -/
def fnExactNoLoadSpec : ChangeSpec := { name := "fnExactNoLoad", fn := fun _ => fun
  | [d] => { results := [.lit (.bool true)], args := [d] }
  | _ => none }
def fnExactNoLoadRow : OpenClaim := { program := "ytpkphjoobeacfaa", sum := "4690dadd3e866eddf0691f4bf141f398add4a8e34c31b0bab2838866c83d12ef", func := "loop.example/g00830/laws.FnExactNoLoad", spec := "fnExactNoLoad", unfollowed := true, recurses := true, apart := false }
def FnExactNoLoadSaid : Prop := fnExactNoLoadRow.holds Try.pinned (OpenSpec.ofChange fnExactNoLoadSpec)

/-- ITS FALSE NEIGHBOUR: 'it returns false'. Refute it at one input. -/
def fnExactNoLoadWrong : ChangeSpec := { name := "fnExactNoLoad", fn := fun _ => fun
  | [d] => { results := [.lit (.bool false)], args := [d] }
  | _ => none }
def FnExactNoLoadWrongFalsely : Prop := fnExactNoLoadRow.holds Try.pinned (OpenSpec.ofChange fnExactNoLoadWrong)

/-- 'laws.FnExactFreeJoints': WHATEVER THE INPUT: true; the input reads as it did. -/
def fnExactFreeJointsSpec : ChangeSpec := { name := "fnExactFreeJoints", fn := fun _ => fun
  | [d] => { results := [.lit (.bool true)], args := [d] }
  | _ => none }
def fnExactFreeJointsRow : OpenClaim := { program := "ytpkphjoobeacfaa", sum := "4690dadd3e866eddf0691f4bf141f398add4a8e34c31b0bab2838866c83d12ef", func := "loop.example/g00830/laws.FnExactFreeJoints", spec := "fnExactFreeJoints", unfollowed := true, recurses := true, apart := false }
def FnExactFreeJointsSaid : Prop := fnExactFreeJointsRow.holds Try.pinned (OpenSpec.ofChange fnExactFreeJointsSpec)

/-- ITS FALSE NEIGHBOUR: 'it returns false'. Refute it at one input. -/
def fnExactFreeJointsWrong : ChangeSpec := { name := "fnExactFreeJoints", fn := fun _ => fun
  | [d] => { results := [.lit (.bool false)], args := [d] }
  | _ => none }
def FnExactFreeJointsWrongFalsely : Prop := fnExactFreeJointsRow.holds Try.pinned (OpenSpec.ofChange fnExactFreeJointsWrong)

/-- 'laws.FnExactPutLoad': WHATEVER THE INPUT: true; the input reads as it did. -/
def fnExactPutLoadSpec : ChangeSpec := { name := "fnExactPutLoad", fn := fun _ => fun
  | [d1, d2, d3, d4, d5] => { results := [.lit (.bool true)], args := [d1, d2, d3, d4, d5] }
  | _ => none }
def fnExactPutLoadRow : OpenClaim := { program := "ytpkphjoobeacfaa", sum := "4690dadd3e866eddf0691f4bf141f398add4a8e34c31b0bab2838866c83d12ef", func := "loop.example/g00830/laws.FnExactPutLoad", spec := "fnExactPutLoad", unfollowed := true, recurses := true, apart := false }
def FnExactPutLoadSaid : Prop := fnExactPutLoadRow.holds Try.pinned (OpenSpec.ofChange fnExactPutLoadSpec)

/-- ITS FALSE NEIGHBOUR: 'it returns false'. Refute it at one input. -/
def fnExactPutLoadWrong : ChangeSpec := { name := "fnExactPutLoad", fn := fun _ => fun
  | [d1, d2, d3, d4, d5] => { results := [.lit (.bool false)], args := [d1, d2, d3, d4, d5] }
  | _ => none }
def FnExactPutLoadWrongFalsely : Prop := fnExactPutLoadRow.holds Try.pinned (OpenSpec.ofChange fnExactPutLoadWrong)

/-- 'laws.FnExactMixLoads': WHATEVER THE INPUT: true; the input reads as it did. -/
def fnExactMixLoadsSpec : ChangeSpec := { name := "fnExactMixLoads", fn := fun _ => fun
  | [d1, d2, d3] => { results := [.lit (.bool true)], args := [d1, d2, d3] }
  | _ => none }
def fnExactMixLoadsRow : OpenClaim := { program := "ytpkphjoobeacfaa", sum := "4690dadd3e866eddf0691f4bf141f398add4a8e34c31b0bab2838866c83d12ef", func := "loop.example/g00830/laws.FnExactMixLoads", spec := "fnExactMixLoads", unfollowed := true, recurses := true, apart := false }
def FnExactMixLoadsSaid : Prop := fnExactMixLoadsRow.holds Try.pinned (OpenSpec.ofChange fnExactMixLoadsSpec)

/-- ITS FALSE NEIGHBOUR: 'it returns false'. Refute it at one input. -/
def fnExactMixLoadsWrong : ChangeSpec := { name := "fnExactMixLoads", fn := fun _ => fun
  | [d1, d2, d3] => { results := [.lit (.bool false)], args := [d1, d2, d3] }
  | _ => none }
def FnExactMixLoadsWrongFalsely : Prop := fnExactMixLoadsRow.holds Try.pinned (OpenSpec.ofChange fnExactMixLoadsWrong)

/-- 'laws.FnExactForceProgram': WHATEVER THE INPUT: true; the input reads as it did. -/
def fnExactForceProgramSpec : ChangeSpec := { name := "fnExactForceProgram", fn := fun _ => fun
  | [d1, d2] => { results := [.lit (.bool true)], args := [d1, d2] }
  | _ => none }
def fnExactForceProgramRow : OpenClaim := { program := "ytpkphjoobeacfaa", sum := "4690dadd3e866eddf0691f4bf141f398add4a8e34c31b0bab2838866c83d12ef", func := "loop.example/g00830/laws.FnExactForceProgram", spec := "fnExactForceProgram", unfollowed := true, recurses := true, apart := false }
def FnExactForceProgramSaid : Prop := fnExactForceProgramRow.holds Try.pinned (OpenSpec.ofChange fnExactForceProgramSpec)

/-- ITS FALSE NEIGHBOUR: 'it returns false'. Refute it at one input. -/
def fnExactForceProgramWrong : ChangeSpec := { name := "fnExactForceProgram", fn := fun _ => fun
  | [d1, d2] => { results := [.lit (.bool false)], args := [d1, d2] }
  | _ => none }
def FnExactForceProgramWrongFalsely : Prop := fnExactForceProgramRow.holds Try.pinned (OpenSpec.ofChange fnExactForceProgramWrong)

/- THE SECOND FORM. 'bulk': how many values and letters a reading holds, each counted each time it is reached (what is shared counts as often as it is met; a slice's spare places count too). A statement '..UptoSaid' is the law's where the arguments, and the package variables that the reading takes, are together of bulk at most 1048576: NARROWER than '..Said'. Prove '..Said' where nothing that the law and all that it calls make is longer than what came in: it says more and counts as full. Else prove '..UptoSaid'. A law counts once. -/
mutual
def uptoBulk {H : Type} : DataW H → Nat
  | .lit (.string bytes) => bytes.length + 1
  | .lit _ => 1
  | .nil => 1
  | .ptr d => uptoBulk d + 1
  | .slice elems spare => uptoBulkAll elems + uptoBulkAll spare + 1
  | .agg parts => uptoBulkAll parts + 1
  | .iface _ d => uptoBulk d + 1
  | .map entries => uptoBulkEntries entries + 1
  | .held _ => 1
def uptoBulkAll {H : Type} : List (DataW H) → Nat
  | [] => 0
  | d :: r => uptoBulk d + uptoBulkAll r
def uptoBulkEntries {H : Type} : List (Lit × DataW H) → Nat
  | [] => 0
  | x :: r => uptoBulkEntry x + uptoBulkEntries r
def uptoBulkEntry {H : Type} : Lit × DataW H → Nat
  | (.string bytes, d) => bytes.length + uptoBulk d + 1
  | (_, d) => uptoBulk d + 1
 end
def uptoSmall : (H : Type) → List (DataW H) → Bool := fun _ ds => decide (uptoBulkAll ds ≤ 1048576)
def OpenSpec.upto (s : _root_.Go.ChangeSpec) : _root_.Go.OpenSpec := { _root_.Go.OpenSpec.ofChange s with cond := some uptoSmall }

/-- 'laws.FnExactKindName', WHERE WHAT IT READS IS OF BULK AT MOST 1048576: true; the input reads as it did. -/
def fnExactKindNameUptoRow : OpenClaim := { program := "ytpkphjoobeacfaa", sum := "4690dadd3e866eddf0691f4bf141f398add4a8e34c31b0bab2838866c83d12ef", func := "loop.example/g00830/laws.FnExactKindName", spec := "fnExactKindName", apart := false, narrowed := true }
def FnExactKindNameUptoSaid : Prop := fnExactKindNameUptoRow.holds Try.pinned (OpenSpec.upto fnExactKindNameSpec)

/-- 'laws.FnExactJointOk', WHERE WHAT IT READS IS OF BULK AT MOST 1048576: true; the input reads as it did. -/
def fnExactJointOkUptoRow : OpenClaim := { program := "ytpkphjoobeacfaa", sum := "4690dadd3e866eddf0691f4bf141f398add4a8e34c31b0bab2838866c83d12ef", func := "loop.example/g00830/laws.FnExactJointOk", spec := "fnExactJointOk", apart := false, narrowed := true }
def FnExactJointOkUptoSaid : Prop := fnExactJointOkUptoRow.holds Try.pinned (OpenSpec.upto fnExactJointOkSpec)

/-- 'laws.FnExactSameLoads', WHERE WHAT IT READS IS OF BULK AT MOST 1048576: true; the input reads as it did. -/
def fnExactSameLoadsUptoRow : OpenClaim := { program := "ytpkphjoobeacfaa", sum := "4690dadd3e866eddf0691f4bf141f398add4a8e34c31b0bab2838866c83d12ef", func := "loop.example/g00830/laws.FnExactSameLoads", spec := "fnExactSameLoads", apart := false, narrowed := true }
def FnExactSameLoadsUptoSaid : Prop := fnExactSameLoadsUptoRow.holds Try.pinned (OpenSpec.upto fnExactSameLoadsSpec)

/-- 'laws.FnExactJointNamed', WHERE WHAT IT READS IS OF BULK AT MOST 1048576: true; the input reads as it did. -/
def fnExactJointNamedUptoRow : OpenClaim := { program := "ytpkphjoobeacfaa", sum := "4690dadd3e866eddf0691f4bf141f398add4a8e34c31b0bab2838866c83d12ef", func := "loop.example/g00830/laws.FnExactJointNamed", spec := "fnExactJointNamed", unfollowed := true, recurses := true, apart := false, narrowed := true }
def FnExactJointNamedUptoSaid : Prop := fnExactJointNamedUptoRow.holds Try.pinned (OpenSpec.upto fnExactJointNamedSpec)

/-- 'laws.FnExactSameStructures', WHERE WHAT IT READS IS OF BULK AT MOST 1048576: true; the input reads as it did. -/
def fnExactSameStructuresUptoRow : OpenClaim := { program := "ytpkphjoobeacfaa", sum := "4690dadd3e866eddf0691f4bf141f398add4a8e34c31b0bab2838866c83d12ef", func := "loop.example/g00830/laws.FnExactSameStructures", spec := "fnExactSameStructures", apart := false, narrowed := true }
def FnExactSameStructuresUptoSaid : Prop := fnExactSameStructuresUptoRow.holds Try.pinned (OpenSpec.upto fnExactSameStructuresSpec)

/-- 'laws.FnMixed', WHERE WHAT IT READS IS OF BULK AT MOST 1048576: true; the input reads as it did. -/
def fnMixedUptoRow : OpenClaim := { program := "ytpkphjoobeacfaa", sum := "4690dadd3e866eddf0691f4bf141f398add4a8e34c31b0bab2838866c83d12ef", func := "loop.example/g00830/laws.FnMixed", spec := "fnMixed", unfollowed := true, recurses := true, apart := false, narrowed := true }
def FnMixedUptoSaid : Prop := fnMixedUptoRow.holds Try.pinned (OpenSpec.upto fnMixedSpec)

/-- 'laws.FnExactStructureOk', WHERE WHAT IT READS IS OF BULK AT MOST 1048576: true; the input reads as it did. -/
def fnExactStructureOkUptoRow : OpenClaim := { program := "ytpkphjoobeacfaa", sum := "4690dadd3e866eddf0691f4bf141f398add4a8e34c31b0bab2838866c83d12ef", func := "loop.example/g00830/laws.FnExactStructureOk", spec := "fnExactStructureOk", unfollowed := true, recurses := true, apart := false, narrowed := true }
def FnExactStructureOkUptoSaid : Prop := fnExactStructureOkUptoRow.holds Try.pinned (OpenSpec.upto fnExactStructureOkSpec)

/-- 'laws.FnExactVectorOf', WHERE WHAT IT READS IS OF BULK AT MOST 1048576: true; the input reads as it did. -/
def fnExactVectorOfUptoRow : OpenClaim := { program := "ytpkphjoobeacfaa", sum := "4690dadd3e866eddf0691f4bf141f398add4a8e34c31b0bab2838866c83d12ef", func := "loop.example/g00830/laws.FnExactVectorOf", spec := "fnExactVectorOf", unfollowed := true, recurses := true, apart := false, narrowed := true }
def FnExactVectorOfUptoSaid : Prop := fnExactVectorOfUptoRow.holds Try.pinned (OpenSpec.upto fnExactVectorOfSpec)

/-- 'laws.FnExactDegreeOf', WHERE WHAT IT READS IS OF BULK AT MOST 1048576: true; the input reads as it did. -/
def fnExactDegreeOfUptoRow : OpenClaim := { program := "ytpkphjoobeacfaa", sum := "4690dadd3e866eddf0691f4bf141f398add4a8e34c31b0bab2838866c83d12ef", func := "loop.example/g00830/laws.FnExactDegreeOf", spec := "fnExactDegreeOf", unfollowed := true, recurses := true, apart := false, narrowed := true }
def FnExactDegreeOfUptoSaid : Prop := fnExactDegreeOfUptoRow.holds Try.pinned (OpenSpec.upto fnExactDegreeOfSpec)

/-- 'laws.FnExactSquareOf', WHERE WHAT IT READS IS OF BULK AT MOST 1048576: true; the input reads as it did. -/
def fnExactSquareOfUptoRow : OpenClaim := { program := "ytpkphjoobeacfaa", sum := "4690dadd3e866eddf0691f4bf141f398add4a8e34c31b0bab2838866c83d12ef", func := "loop.example/g00830/laws.FnExactSquareOf", spec := "fnExactSquareOf", unfollowed := true, recurses := true, apart := false, narrowed := true }
def FnExactSquareOfUptoSaid : Prop := fnExactSquareOfUptoRow.holds Try.pinned (OpenSpec.upto fnExactSquareOfSpec)

/-- 'laws.FnExactLoadOk', WHERE WHAT IT READS IS OF BULK AT MOST 1048576: true; the input reads as it did. -/
def fnExactLoadOkUptoRow : OpenClaim := { program := "ytpkphjoobeacfaa", sum := "4690dadd3e866eddf0691f4bf141f398add4a8e34c31b0bab2838866c83d12ef", func := "loop.example/g00830/laws.FnExactLoadOk", spec := "fnExactLoadOk", unfollowed := true, recurses := true, apart := false, narrowed := true }
def FnExactLoadOkUptoSaid : Prop := fnExactLoadOkUptoRow.holds Try.pinned (OpenSpec.upto fnExactLoadOkSpec)

/-- 'laws.FnExactMomentOf', WHERE WHAT IT READS IS OF BULK AT MOST 1048576: true; the input reads as it did. -/
def fnExactMomentOfUptoRow : OpenClaim := { program := "ytpkphjoobeacfaa", sum := "4690dadd3e866eddf0691f4bf141f398add4a8e34c31b0bab2838866c83d12ef", func := "loop.example/g00830/laws.FnExactMomentOf", spec := "fnExactMomentOf", unfollowed := true, recurses := true, apart := false, narrowed := true }
def FnExactMomentOfUptoSaid : Prop := fnExactMomentOfUptoRow.holds Try.pinned (OpenSpec.upto fnExactMomentOfSpec)

/-- 'laws.FnExactTotalOf', WHERE WHAT IT READS IS OF BULK AT MOST 1048576: true; the input reads as it did. -/
def fnExactTotalOfUptoRow : OpenClaim := { program := "ytpkphjoobeacfaa", sum := "4690dadd3e866eddf0691f4bf141f398add4a8e34c31b0bab2838866c83d12ef", func := "loop.example/g00830/laws.FnExactTotalOf", spec := "fnExactTotalOf", unfollowed := true, recurses := true, apart := false, narrowed := true }
def FnExactTotalOfUptoSaid : Prop := fnExactTotalOfUptoRow.holds Try.pinned (OpenSpec.upto fnExactTotalOfSpec)

/-- 'laws.FnExactWithoutMembers', WHERE WHAT IT READS IS OF BULK AT MOST 1048576: true; the input reads as it did. -/
def fnExactWithoutMembersUptoRow : OpenClaim := { program := "ytpkphjoobeacfaa", sum := "4690dadd3e866eddf0691f4bf141f398add4a8e34c31b0bab2838866c83d12ef", func := "loop.example/g00830/laws.FnExactWithoutMembers", spec := "fnExactWithoutMembers", apart := false, narrowed := true }
def FnExactWithoutMembersUptoSaid : Prop := fnExactWithoutMembersUptoRow.holds Try.pinned (OpenSpec.upto fnExactWithoutMembersSpec)

/-- 'laws.FnExactNoLoad', WHERE WHAT IT READS IS OF BULK AT MOST 1048576: true; the input reads as it did. -/
def fnExactNoLoadUptoRow : OpenClaim := { program := "ytpkphjoobeacfaa", sum := "4690dadd3e866eddf0691f4bf141f398add4a8e34c31b0bab2838866c83d12ef", func := "loop.example/g00830/laws.FnExactNoLoad", spec := "fnExactNoLoad", unfollowed := true, recurses := true, apart := false, narrowed := true }
def FnExactNoLoadUptoSaid : Prop := fnExactNoLoadUptoRow.holds Try.pinned (OpenSpec.upto fnExactNoLoadSpec)

/-- 'laws.FnExactFreeJoints', WHERE WHAT IT READS IS OF BULK AT MOST 1048576: true; the input reads as it did. -/
def fnExactFreeJointsUptoRow : OpenClaim := { program := "ytpkphjoobeacfaa", sum := "4690dadd3e866eddf0691f4bf141f398add4a8e34c31b0bab2838866c83d12ef", func := "loop.example/g00830/laws.FnExactFreeJoints", spec := "fnExactFreeJoints", unfollowed := true, recurses := true, apart := false, narrowed := true }
def FnExactFreeJointsUptoSaid : Prop := fnExactFreeJointsUptoRow.holds Try.pinned (OpenSpec.upto fnExactFreeJointsSpec)

/-- 'laws.FnExactPutLoad', WHERE WHAT IT READS IS OF BULK AT MOST 1048576: true; the input reads as it did. -/
def fnExactPutLoadUptoRow : OpenClaim := { program := "ytpkphjoobeacfaa", sum := "4690dadd3e866eddf0691f4bf141f398add4a8e34c31b0bab2838866c83d12ef", func := "loop.example/g00830/laws.FnExactPutLoad", spec := "fnExactPutLoad", unfollowed := true, recurses := true, apart := false, narrowed := true }
def FnExactPutLoadUptoSaid : Prop := fnExactPutLoadUptoRow.holds Try.pinned (OpenSpec.upto fnExactPutLoadSpec)

/-- 'laws.FnExactMixLoads', WHERE WHAT IT READS IS OF BULK AT MOST 1048576: true; the input reads as it did. -/
def fnExactMixLoadsUptoRow : OpenClaim := { program := "ytpkphjoobeacfaa", sum := "4690dadd3e866eddf0691f4bf141f398add4a8e34c31b0bab2838866c83d12ef", func := "loop.example/g00830/laws.FnExactMixLoads", spec := "fnExactMixLoads", unfollowed := true, recurses := true, apart := false, narrowed := true }
def FnExactMixLoadsUptoSaid : Prop := fnExactMixLoadsUptoRow.holds Try.pinned (OpenSpec.upto fnExactMixLoadsSpec)

/-- 'laws.FnExactForceProgram', WHERE WHAT IT READS IS OF BULK AT MOST 1048576: true; the input reads as it did. -/
def fnExactForceProgramUptoRow : OpenClaim := { program := "ytpkphjoobeacfaa", sum := "4690dadd3e866eddf0691f4bf141f398add4a8e34c31b0bab2838866c83d12ef", func := "loop.example/g00830/laws.FnExactForceProgram", spec := "fnExactForceProgram", unfollowed := true, recurses := true, apart := false, narrowed := true }
def FnExactForceProgramUptoSaid : Prop := fnExactForceProgramUptoRow.holds Try.pinned (OpenSpec.upto fnExactForceProgramSpec)

end Rows
end Go.Proofs.Ytpkphjoobeacfaa
