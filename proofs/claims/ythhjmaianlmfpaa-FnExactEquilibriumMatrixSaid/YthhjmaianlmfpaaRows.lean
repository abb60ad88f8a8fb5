/-
  No cell of these rows narrows 'for every input' (looked for: loops, veiled, ifaces, maps, wideKeys, modest, calm, conditions, laid).
  DERIVED. THE GIVEN ROWS OF THIS SEAT. 9 by the template 'for every input the law returns true; each argument reads behind the call as it read before'; 0 by the template 'total and deterministic' (their statements: YthhjmaianlmfpaaTotals.lean).
  GIVEN WITH THE SEED: the statements are not yours to turn. If you find one false, say at which input.
  Laid BY PROGRAM, IN A SANDBOX (cutbox-rows.mjs): the forced cells as the released guide's own fill.sh prints them over the translation fbedc71188aefac0… (all of the seat's roots in one cut). By AI agents, Wed Nov 11 2026. No macro, syntax, notation, axiom, sorry.
-/
import Derived.Test.YthhjmaianlmfpaaChecked
import GoSem.Claim
import GoSem.ClaimJoined
import GoSem.ClaimMapViews
import Derived.JoinedTies
import Derived.KernelRfl
namespace Go.Proofs.Ythhjmaianlmfpaa
/- THE CELL 'sum', in the pinned program and in every row, IS THE sha256 OF THE DUMP (.gsa) THAT YthhjmaianlmfpaaProg.lean LOADS. Nothing in Lean hashes anything: it is a label: what it is worth is what the hold of that sum in a sandbox is worth. -/
noncomputable def Try.pinned : Pinned := { name := "ythhjmaianlmfpaa", sum := "fbedc71188aefac027b59aacbd53c785c2195f42078b3d94b4b7f23dc8db60ae", checked := Try.checked }
namespace Rows
def none {H : Type} : Left H := { results := [], args := [] }

/-- 'laws.FnMixed': WHATEVER THE INPUT: true; the input reads as it did. -/
def fnMixedSpec : ChangeSpec := { name := "fnMixed", fn := fun _ => fun
  | [d] => { results := [.lit (.bool true)], args := [d] }
  | _ => none }
def fnMixedRow : OpenClaim := { program := "ythhjmaianlmfpaa", sum := "fbedc71188aefac027b59aacbd53c785c2195f42078b3d94b4b7f23dc8db60ae", func := "loop.example/g00830/laws.FnMixed", spec := "fnMixed", unfollowed := true, recurses := true, apart := false }
def FnMixedSaid : Prop := fnMixedRow.holds Try.pinned (OpenSpec.ofChange fnMixedSpec)

/-- ITS FALSE NEIGHBOUR: 'it returns false'. Refute it at one input. -/
def fnMixedWrong : ChangeSpec := { name := "fnMixed", fn := fun _ => fun
  | [d] => { results := [.lit (.bool false)], args := [d] }
  | _ => none }
def FnMixedWrongFalsely : Prop := fnMixedRow.holds Try.pinned (OpenSpec.ofChange fnMixedWrong)

/-- 'laws.FnExactSpanOk': WHATEVER THE INPUT: true; the input reads as it did. -/
def fnExactSpanOkSpec : ChangeSpec := { name := "fnExactSpanOk", fn := fun _ => fun
  | [d] => { results := [.lit (.bool true)], args := [d] }
  | _ => none }
def fnExactSpanOkRow : OpenClaim := { program := "ythhjmaianlmfpaa", sum := "fbedc71188aefac027b59aacbd53c785c2195f42078b3d94b4b7f23dc8db60ae", func := "loop.example/g00830/laws.FnExactSpanOk", spec := "fnExactSpanOk", unfollowed := true, recurses := true, apart := false }
def FnExactSpanOkSaid : Prop := fnExactSpanOkRow.holds Try.pinned (OpenSpec.ofChange fnExactSpanOkSpec)

/-- ITS FALSE NEIGHBOUR: 'it returns false'. Refute it at one input. -/
def fnExactSpanOkWrong : ChangeSpec := { name := "fnExactSpanOk", fn := fun _ => fun
  | [d] => { results := [.lit (.bool false)], args := [d] }
  | _ => none }
def FnExactSpanOkWrongFalsely : Prop := fnExactSpanOkRow.holds Try.pinned (OpenSpec.ofChange fnExactSpanOkWrong)

/-- 'laws.FnExactIsOpen': WHATEVER THE INPUT: true; the input reads as it did. -/
def fnExactIsOpenSpec : ChangeSpec := { name := "fnExactIsOpen", fn := fun _ => fun
  | [d] => { results := [.lit (.bool true)], args := [d] }
  | _ => none }
def fnExactIsOpenRow : OpenClaim := { program := "ythhjmaianlmfpaa", sum := "fbedc71188aefac027b59aacbd53c785c2195f42078b3d94b4b7f23dc8db60ae", func := "loop.example/g00830/laws.FnExactIsOpen", spec := "fnExactIsOpen", unfollowed := true, recurses := true, apart := false }
def FnExactIsOpenSaid : Prop := fnExactIsOpenRow.holds Try.pinned (OpenSpec.ofChange fnExactIsOpenSpec)

/-- ITS FALSE NEIGHBOUR: 'it returns false'. Refute it at one input. -/
def fnExactIsOpenWrong : ChangeSpec := { name := "fnExactIsOpen", fn := fun _ => fun
  | [d] => { results := [.lit (.bool false)], args := [d] }
  | _ => none }
def FnExactIsOpenWrongFalsely : Prop := fnExactIsOpenRow.holds Try.pinned (OpenSpec.ofChange fnExactIsOpenWrong)

/-- 'laws.FnExactInSpan': WHATEVER THE INPUT: true; the input reads as it did. -/
def fnExactInSpanSpec : ChangeSpec := { name := "fnExactInSpan", fn := fun _ => fun
  | [d1, d2] => { results := [.lit (.bool true)], args := [d1, d2] }
  | _ => none }
def fnExactInSpanRow : OpenClaim := { program := "ythhjmaianlmfpaa", sum := "fbedc71188aefac027b59aacbd53c785c2195f42078b3d94b4b7f23dc8db60ae", func := "loop.example/g00830/laws.FnExactInSpan", spec := "fnExactInSpan", unfollowed := true, recurses := true, apart := false }
def FnExactInSpanSaid : Prop := fnExactInSpanRow.holds Try.pinned (OpenSpec.ofChange fnExactInSpanSpec)

/-- ITS FALSE NEIGHBOUR: 'it returns false'. Refute it at one input. -/
def fnExactInSpanWrong : ChangeSpec := { name := "fnExactInSpan", fn := fun _ => fun
  | [d1, d2] => { results := [.lit (.bool false)], args := [d1, d2] }
  | _ => none }
def FnExactInSpanWrongFalsely : Prop := fnExactInSpanRow.holds Try.pinned (OpenSpec.ofChange fnExactInSpanWrong)

/-- 'laws.FnExactWidthOf': WHATEVER THE INPUT: true; the input reads as it did. -/
def fnExactWidthOfSpec : ChangeSpec := { name := "fnExactWidthOf", fn := fun _ => fun
  | [d] => { results := [.lit (.bool true)], args := [d] }
  | _ => none }
def fnExactWidthOfRow : OpenClaim := { program := "ythhjmaianlmfpaa", sum := "fbedc71188aefac027b59aacbd53c785c2195f42078b3d94b4b7f23dc8db60ae", func := "loop.example/g00830/laws.FnExactWidthOf", spec := "fnExactWidthOf", unfollowed := true, recurses := true, apart := false }
def FnExactWidthOfSaid : Prop := fnExactWidthOfRow.holds Try.pinned (OpenSpec.ofChange fnExactWidthOfSpec)

/-- ITS FALSE NEIGHBOUR: 'it returns false'. Refute it at one input. -/
def fnExactWidthOfWrong : ChangeSpec := { name := "fnExactWidthOf", fn := fun _ => fun
  | [d] => { results := [.lit (.bool false)], args := [d] }
  | _ => none }
def FnExactWidthOfWrongFalsely : Prop := fnExactWidthOfRow.holds Try.pinned (OpenSpec.ofChange fnExactWidthOfWrong)

/-- 'laws.FnExactHasSigns': WHATEVER THE INPUT: true; the input reads as it did. -/
def fnExactHasSignsSpec : ChangeSpec := { name := "fnExactHasSigns", fn := fun _ => fun
  | [d1, d2] => { results := [.lit (.bool true)], args := [d1, d2] }
  | _ => none }
def fnExactHasSignsRow : OpenClaim := { program := "ythhjmaianlmfpaa", sum := "fbedc71188aefac027b59aacbd53c785c2195f42078b3d94b4b7f23dc8db60ae", func := "loop.example/g00830/laws.FnExactHasSigns", spec := "fnExactHasSigns", unfollowed := true, recurses := true, apart := false }
def FnExactHasSignsSaid : Prop := fnExactHasSignsRow.holds Try.pinned (OpenSpec.ofChange fnExactHasSignsSpec)

/-- ITS FALSE NEIGHBOUR: 'it returns false'. Refute it at one input. -/
def fnExactHasSignsWrong : ChangeSpec := { name := "fnExactHasSigns", fn := fun _ => fun
  | [d1, d2] => { results := [.lit (.bool false)], args := [d1, d2] }
  | _ => none }
def FnExactHasSignsWrongFalsely : Prop := fnExactHasSignsRow.holds Try.pinned (OpenSpec.ofChange fnExactHasSignsWrong)

/-- 'laws.FnExactAddDensities': WHATEVER THE INPUT: true; the input reads as it did. -/
def fnExactAddDensitiesSpec : ChangeSpec := { name := "fnExactAddDensities", fn := fun _ => fun
  | [d1, d2] => { results := [.lit (.bool true)], args := [d1, d2] }
  | _ => none }
def fnExactAddDensitiesRow : OpenClaim := { program := "ythhjmaianlmfpaa", sum := "fbedc71188aefac027b59aacbd53c785c2195f42078b3d94b4b7f23dc8db60ae", func := "loop.example/g00830/laws.FnExactAddDensities", spec := "fnExactAddDensities", unfollowed := true, recurses := true, apart := false }
def FnExactAddDensitiesSaid : Prop := fnExactAddDensitiesRow.holds Try.pinned (OpenSpec.ofChange fnExactAddDensitiesSpec)

/-- ITS FALSE NEIGHBOUR: 'it returns false'. Refute it at one input. -/
def fnExactAddDensitiesWrong : ChangeSpec := { name := "fnExactAddDensities", fn := fun _ => fun
  | [d1, d2] => { results := [.lit (.bool false)], args := [d1, d2] }
  | _ => none }
def FnExactAddDensitiesWrongFalsely : Prop := fnExactAddDensitiesRow.holds Try.pinned (OpenSpec.ofChange fnExactAddDensitiesWrong)

/-- 'laws.FnExactScaleDensities': WHATEVER THE INPUT: true; the input reads as it did. -/
def fnExactScaleDensitiesSpec : ChangeSpec := { name := "fnExactScaleDensities", fn := fun _ => fun
  | [d1, d2] => { results := [.lit (.bool true)], args := [d1, d2] }
  | _ => none }
def fnExactScaleDensitiesRow : OpenClaim := { program := "ythhjmaianlmfpaa", sum := "fbedc71188aefac027b59aacbd53c785c2195f42078b3d94b4b7f23dc8db60ae", func := "loop.example/g00830/laws.FnExactScaleDensities", spec := "fnExactScaleDensities", unfollowed := true, recurses := true, apart := false }
def FnExactScaleDensitiesSaid : Prop := fnExactScaleDensitiesRow.holds Try.pinned (OpenSpec.ofChange fnExactScaleDensitiesSpec)

/-- ITS FALSE NEIGHBOUR: 'it returns false'. Refute it at one input. -/
def fnExactScaleDensitiesWrong : ChangeSpec := { name := "fnExactScaleDensities", fn := fun _ => fun
  | [d1, d2] => { results := [.lit (.bool false)], args := [d1, d2] }
  | _ => none }
def FnExactScaleDensitiesWrongFalsely : Prop := fnExactScaleDensitiesRow.holds Try.pinned (OpenSpec.ofChange fnExactScaleDensitiesWrong)

/-- 'laws.FnExactEquilibriumMatrix': WHATEVER THE INPUT: true; the input reads as it did. -/
def fnExactEquilibriumMatrixSpec : ChangeSpec := { name := "fnExactEquilibriumMatrix", fn := fun _ => fun
  | [d] => { results := [.lit (.bool true)], args := [d] }
  | _ => none }
def fnExactEquilibriumMatrixRow : OpenClaim := { program := "ythhjmaianlmfpaa", sum := "fbedc71188aefac027b59aacbd53c785c2195f42078b3d94b4b7f23dc8db60ae", func := "loop.example/g00830/laws.FnExactEquilibriumMatrix", spec := "fnExactEquilibriumMatrix", unfollowed := true, recurses := true, apart := false }
def FnExactEquilibriumMatrixSaid : Prop := fnExactEquilibriumMatrixRow.holds Try.pinned (OpenSpec.ofChange fnExactEquilibriumMatrixSpec)

/-- ITS FALSE NEIGHBOUR: 'it returns false'. Refute it at one input. -/
def fnExactEquilibriumMatrixWrong : ChangeSpec := { name := "fnExactEquilibriumMatrix", fn := fun _ => fun
  | [d] => { results := [.lit (.bool false)], args := [d] }
  | _ => none }
def FnExactEquilibriumMatrixWrongFalsely : Prop := fnExactEquilibriumMatrixRow.holds Try.pinned (OpenSpec.ofChange fnExactEquilibriumMatrixWrong)

/- THE SECOND FORM. 'bulk': how many values and letters a reading holds, each counted each time it is reached (what is shared counts as often as it is met; a slice's spare places count too). A statement '..UptoSaid' is the law's where the arguments, and the package variables that the reading takes, are together of bulk at most 1048576: NARROWER than '..Said'. Prove '..Said' where nothing that the law and all that it calls make is longer than what came in: it says more and counts as full. Else prove '..UptoSaid'. A law counts once. -/
mutual
def uptoBulk {H : Type} : DataW H → Nat
  | .lit (.string bytes) => bytes.length + 1
  | .lit _ => 1
  | .nil => 1
  | .ptr d => uptoBulk d + 1
  | .slice elems spare => uptoBulkAll elems + uptoBulkAll spare + 1
  | .agg parts => uptoBulkAll parts + 1
  | .iface _ d => uptoBulk d + 1
  | .map entries => uptoBulkEntries entries + 1
  | .held _ => 1
def uptoBulkAll {H : Type} : List (DataW H) → Nat
  | [] => 0
  | d :: r => uptoBulk d + uptoBulkAll r
def uptoBulkEntries {H : Type} : List (Lit × DataW H) → Nat
  | [] => 0
  | x :: r => uptoBulkEntry x + uptoBulkEntries r
def uptoBulkEntry {H : Type} : Lit × DataW H → Nat
  | (.string bytes, d) => bytes.length + uptoBulk d + 1
  | (_, d) => uptoBulk d + 1
 end
def uptoSmall : (H : Type) → List (DataW H) → Bool := fun _ ds => decide (uptoBulkAll ds ≤ 1048576)
def OpenSpec.upto (s : _root_.Go.ChangeSpec) : _root_.Go.OpenSpec := { _root_.Go.OpenSpec.ofChange s with cond := some uptoSmall }

/-- 'laws.FnMixed', WHERE WHAT IT READS IS OF BULK AT MOST 1048576: true; the input reads as it did. -/
def fnMixedUptoRow : OpenClaim := { program := "ythhjmaianlmfpaa", sum := "fbedc71188aefac027b59aacbd53c785c2195f42078b3d94b4b7f23dc8db60ae", func := "loop.example/g00830/laws.FnMixed", spec := "fnMixed", unfollowed := true, recurses := true, apart := false, narrowed := true }
def FnMixedUptoSaid : Prop := fnMixedUptoRow.holds Try.pinned (OpenSpec.upto fnMixedSpec)

/-- 'laws.FnExactSpanOk', WHERE WHAT IT READS IS OF BULK AT MOST 1048576: true; the input reads as it did. -/
def fnExactSpanOkUptoRow : OpenClaim := { program := "ythhjmaianlmfpaa", sum := "fbedc71188aefac027b59aacbd53c785c2195f42078b3d94b4b7f23dc8db60ae", func := "loop.example/g00830/laws.FnExactSpanOk", spec := "fnExactSpanOk", unfollowed := true, recurses := true, apart := false, narrowed := true }
def FnExactSpanOkUptoSaid : Prop := fnExactSpanOkUptoRow.holds Try.pinned (OpenSpec.upto fnExactSpanOkSpec)

/-- 'laws.FnExactIsOpen', WHERE WHAT IT READS IS OF BULK AT MOST 1048576: true; the input reads as it did. -/
def fnExactIsOpenUptoRow : OpenClaim := { program := "ythhjmaianlmfpaa", sum := "fbedc71188aefac027b59aacbd53c785c2195f42078b3d94b4b7f23dc8db60ae", func := "loop.example/g00830/laws.FnExactIsOpen", spec := "fnExactIsOpen", unfollowed := true, recurses := true, apart := false, narrowed := true }
def FnExactIsOpenUptoSaid : Prop := fnExactIsOpenUptoRow.holds Try.pinned (OpenSpec.upto fnExactIsOpenSpec)

/-- 'laws.FnExactInSpan', WHERE WHAT IT READS IS OF BULK AT MOST 1048576: true; the input reads as it did. -/
def fnExactInSpanUptoRow : OpenClaim := { program := "ythhjmaianlmfpaa", sum := "fbedc71188aefac027b59aacbd53c785c2195f42078b3d94b4b7f23dc8db60ae", func := "loop.example/g00830/laws.FnExactInSpan", spec := "fnExactInSpan", unfollowed := true, recurses := true, apart := false, narrowed := true }
def FnExactInSpanUptoSaid : Prop := fnExactInSpanUptoRow.holds Try.pinned (OpenSpec.upto fnExactInSpanSpec)

/-- 'laws.FnExactWidthOf', WHERE WHAT IT READS IS OF BULK AT MOST 1048576: true; the input reads as it did. -/
def fnExactWidthOfUptoRow : OpenClaim := { program := "ythhjmaianlmfpaa", sum := "fbedc71188aefac027b59aacbd53c785c2195f42078b3d94b4b7f23dc8db60ae", func := "loop.example/g00830/laws.FnExactWidthOf", spec := "fnExactWidthOf", unfollowed := true, recurses := true, apart := false, narrowed := true }
def FnExactWidthOfUptoSaid : Prop := fnExactWidthOfUptoRow.holds Try.pinned (OpenSpec.upto fnExactWidthOfSpec)

/-- 'laws.FnExactHasSigns', WHERE WHAT IT READS IS OF BULK AT MOST 1048576: true; the input reads as it did. -/
def fnExactHasSignsUptoRow : OpenClaim := { program := "ythhjmaianlmfpaa", sum := "fbedc71188aefac027b59aacbd53c785c2195f42078b3d94b4b7f23dc8db60ae", func := "loop.example/g00830/laws.FnExactHasSigns", spec := "fnExactHasSigns", unfollowed := true, recurses := true, apart := false, narrowed := true }
def FnExactHasSignsUptoSaid : Prop := fnExactHasSignsUptoRow.holds Try.pinned (OpenSpec.upto fnExactHasSignsSpec)

/-- 'laws.FnExactAddDensities', WHERE WHAT IT READS IS OF BULK AT MOST 1048576: true; the input reads as it did. -/
def fnExactAddDensitiesUptoRow : OpenClaim := { program := "ythhjmaianlmfpaa", sum := "fbedc71188aefac027b59aacbd53c785c2195f42078b3d94b4b7f23dc8db60ae", func := "loop.example/g00830/laws.FnExactAddDensities", spec := "fnExactAddDensities", unfollowed := true, recurses := true, apart := false, narrowed := true }
def FnExactAddDensitiesUptoSaid : Prop := fnExactAddDensitiesUptoRow.holds Try.pinned (OpenSpec.upto fnExactAddDensitiesSpec)

/-- 'laws.FnExactScaleDensities', WHERE WHAT IT READS IS OF BULK AT MOST 1048576: true; the input reads as it did. -/
def fnExactScaleDensitiesUptoRow : OpenClaim := { program := "ythhjmaianlmfpaa", sum := "fbedc71188aefac027b59aacbd53c785c2195f42078b3d94b4b7f23dc8db60ae", func := "loop.example/g00830/laws.FnExactScaleDensities", spec := "fnExactScaleDensities", unfollowed := true, recurses := true, apart := false, narrowed := true }
def FnExactScaleDensitiesUptoSaid : Prop := fnExactScaleDensitiesUptoRow.holds Try.pinned (OpenSpec.upto fnExactScaleDensitiesSpec)

/-- 'laws.FnExactEquilibriumMatrix', WHERE WHAT IT READS IS OF BULK AT MOST 1048576: true; the input reads as it did. -/
def fnExactEquilibriumMatrixUptoRow : OpenClaim := { program := "ythhjmaianlmfpaa", sum := "fbedc71188aefac027b59aacbd53c785c2195f42078b3d94b4b7f23dc8db60ae", func := "loop.example/g00830/laws.FnExactEquilibriumMatrix", spec := "fnExactEquilibriumMatrix", unfollowed := true, recurses := true, apart := false, narrowed := true }
def FnExactEquilibriumMatrixUptoSaid : Prop := fnExactEquilibriumMatrixUptoRow.holds Try.pinned (OpenSpec.upto fnExactEquilibriumMatrixSpec)

end Rows
end Go.Proofs.Ythhjmaianlmfpaa
