/-
  No cell of these rows narrows 'for every input' (looked for: loops, veiled, ifaces, maps, wideKeys, modest, calm, conditions, laid).
  DERIVED. THE GIVEN ROWS OF THIS SEAT. 12 by the template 'for every input the law returns true; each argument reads behind the call as it read before'; 0 by the template 'total and deterministic' (their statements: YtficaacenneniaaTotals.lean).
  GIVEN WITH THE SEED: the statements are not yours to turn. If you find one false, say at which input.
  Laid BY PROGRAM, IN A SANDBOX (cutbox-rows.mjs): the forced cells as the released guide's own fill.sh prints them over the translation 846d837f7e2e0625… (all of the seat's roots in one cut). By AI agents, Wed Nov 11 2026. No macro, syntax, notation, axiom, sorry.
-/
import Derived.Test.YtficaacenneniaaChecked
import GoSem.Claim
import GoSem.ClaimJoined
import GoSem.ClaimMapViews
import Derived.JoinedTies
import Derived.KernelRfl
namespace Go.Proofs.Ytficaacenneniaa
/- THE CELL 'sum', in the pinned program and in every row, IS THE sha256 OF THE DUMP (.gsa) THAT YtficaacenneniaaProg.lean LOADS. Nothing in Lean hashes anything: it is a label: what it is worth is what the hold of that sum in a sandbox is worth. -/
noncomputable def Try.pinned : Pinned := { name := "ytficaacenneniaa", sum := "846d837f7e2e0625349fbfd179f460918ac21d52653a95732be14f22383c0fed", checked := Try.checked }
namespace Rows
def none {H : Type} : Left H := { results := [], args := [] }

/-- 'laws.FnExactEffAt': WHATEVER THE INPUT: true; the input reads as it did. -/
def fnExactEffAtSpec : ChangeSpec := { name := "fnExactEffAt", fn := fun _ => fun
  | [d1, d2] => { results := [.lit (.bool true)], args := [d1, d2] }
  | _ => none }
def fnExactEffAtRow : OpenClaim := { program := "ytficaacenneniaa", sum := "846d837f7e2e0625349fbfd179f460918ac21d52653a95732be14f22383c0fed", func := "loop.example/g01608/laws.FnExactEffAt", spec := "fnExactEffAt", unfollowed := true, recurses := true, apart := false }
def FnExactEffAtSaid : Prop := fnExactEffAtRow.holds Try.pinned (OpenSpec.ofChange fnExactEffAtSpec)

/-- ITS FALSE NEIGHBOUR: 'it returns false'. Refute it at one input. -/
def fnExactEffAtWrong : ChangeSpec := { name := "fnExactEffAt", fn := fun _ => fun
  | [d1, d2] => { results := [.lit (.bool false)], args := [d1, d2] }
  | _ => none }
def FnExactEffAtWrongFalsely : Prop := fnExactEffAtRow.holds Try.pinned (OpenSpec.ofChange fnExactEffAtWrong)

/-- 'laws.FnExactAhead': WHATEVER THE INPUT: true; the input reads as it did. -/
def fnExactAheadSpec : ChangeSpec := { name := "fnExactAhead", fn := fun _ => fun
  | [d1, d2, d3] => { results := [.lit (.bool true)], args := [d1, d2, d3] }
  | _ => none }
def fnExactAheadRow : OpenClaim := { program := "ytficaacenneniaa", sum := "846d837f7e2e0625349fbfd179f460918ac21d52653a95732be14f22383c0fed", func := "loop.example/g01608/laws.FnExactAhead", spec := "fnExactAhead", unfollowed := true, recurses := true, apart := false }
def FnExactAheadSaid : Prop := fnExactAheadRow.holds Try.pinned (OpenSpec.ofChange fnExactAheadSpec)

/-- ITS FALSE NEIGHBOUR: 'it returns false'. Refute it at one input. -/
def fnExactAheadWrong : ChangeSpec := { name := "fnExactAhead", fn := fun _ => fun
  | [d1, d2, d3] => { results := [.lit (.bool false)], args := [d1, d2, d3] }
  | _ => none }
def FnExactAheadWrongFalsely : Prop := fnExactAheadRow.holds Try.pinned (OpenSpec.ofChange fnExactAheadWrong)

/-- 'laws.FnExactRowFrom': WHATEVER THE INPUT: true; the input reads as it did. -/
def fnExactRowFromSpec : ChangeSpec := { name := "fnExactRowFrom", fn := fun _ => fun
  | [d1, d2] => { results := [.lit (.bool true)], args := [d1, d2] }
  | _ => none }
def fnExactRowFromRow : OpenClaim := { program := "ytficaacenneniaa", sum := "846d837f7e2e0625349fbfd179f460918ac21d52653a95732be14f22383c0fed", func := "loop.example/g01608/laws.FnExactRowFrom", spec := "fnExactRowFrom", apart := false }
def FnExactRowFromSaid : Prop := fnExactRowFromRow.holds Try.pinned (OpenSpec.ofChange fnExactRowFromSpec)

/-- ITS FALSE NEIGHBOUR: 'it returns false'. Refute it at one input. -/
def fnExactRowFromWrong : ChangeSpec := { name := "fnExactRowFrom", fn := fun _ => fun
  | [d1, d2] => { results := [.lit (.bool false)], args := [d1, d2] }
  | _ => none }
def FnExactRowFromWrongFalsely : Prop := fnExactRowFromRow.holds Try.pinned (OpenSpec.ofChange fnExactRowFromWrong)

/-- 'laws.FnExactModelOk': WHATEVER THE INPUT: true; the input reads as it did. -/
def fnExactModelOkSpec : ChangeSpec := { name := "fnExactModelOk", fn := fun _ => fun
  | [d] => { results := [.lit (.bool true)], args := [d] }
  | _ => none }
def fnExactModelOkRow : OpenClaim := { program := "ytficaacenneniaa", sum := "846d837f7e2e0625349fbfd179f460918ac21d52653a95732be14f22383c0fed", func := "loop.example/g01608/laws.FnExactModelOk", spec := "fnExactModelOk", unfollowed := true, recurses := true, apart := false }
def FnExactModelOkSaid : Prop := fnExactModelOkRow.holds Try.pinned (OpenSpec.ofChange fnExactModelOkSpec)

/-- ITS FALSE NEIGHBOUR: 'it returns false'. Refute it at one input. -/
def fnExactModelOkWrong : ChangeSpec := { name := "fnExactModelOk", fn := fun _ => fun
  | [d] => { results := [.lit (.bool false)], args := [d] }
  | _ => none }
def FnExactModelOkWrongFalsely : Prop := fnExactModelOkRow.holds Try.pinned (OpenSpec.ofChange fnExactModelOkWrong)

/-- 'laws.FnExactRowIn': WHATEVER THE INPUT: true; the input reads as it did. -/
def fnExactRowInSpec : ChangeSpec := { name := "fnExactRowIn", fn := fun _ => fun
  | [d1, d2, d3] => { results := [.lit (.bool true)], args := [d1, d2, d3] }
  | _ => none }
def fnExactRowInRow : OpenClaim := { program := "ytficaacenneniaa", sum := "846d837f7e2e0625349fbfd179f460918ac21d52653a95732be14f22383c0fed", func := "loop.example/g01608/laws.FnExactRowIn", spec := "fnExactRowIn", unfollowed := true, recurses := true, apart := false }
def FnExactRowInSaid : Prop := fnExactRowInRow.holds Try.pinned (OpenSpec.ofChange fnExactRowInSpec)

/-- ITS FALSE NEIGHBOUR: 'it returns false'. Refute it at one input. -/
def fnExactRowInWrong : ChangeSpec := { name := "fnExactRowIn", fn := fun _ => fun
  | [d1, d2, d3] => { results := [.lit (.bool false)], args := [d1, d2, d3] }
  | _ => none }
def FnExactRowInWrongFalsely : Prop := fnExactRowInRow.holds Try.pinned (OpenSpec.ofChange fnExactRowInWrong)

/-- 'laws.FnExactRecordNow': WHATEVER THE INPUT: true; the input reads as it did. -/
def fnExactRecordNowSpec : ChangeSpec := { name := "fnExactRecordNow", fn := fun _ => fun
  | [d1, d2, d3, d4] => { results := [.lit (.bool true)], args := [d1, d2, d3, d4] }
  | _ => none }
def fnExactRecordNowRow : OpenClaim := { program := "ytficaacenneniaa", sum := "846d837f7e2e0625349fbfd179f460918ac21d52653a95732be14f22383c0fed", func := "loop.example/g01608/laws.FnExactRecordNow", spec := "fnExactRecordNow", unfollowed := true, recurses := true, apart := false }
def FnExactRecordNowSaid : Prop := fnExactRecordNowRow.holds Try.pinned (OpenSpec.ofChange fnExactRecordNowSpec)

/-- ITS FALSE NEIGHBOUR: 'it returns false'. Refute it at one input. -/
def fnExactRecordNowWrong : ChangeSpec := { name := "fnExactRecordNow", fn := fun _ => fun
  | [d1, d2, d3, d4] => { results := [.lit (.bool false)], args := [d1, d2, d3, d4] }
  | _ => none }
def FnExactRecordNowWrongFalsely : Prop := fnExactRecordNowRow.holds Try.pinned (OpenSpec.ofChange fnExactRecordNowWrong)

/-- 'laws.FnExactStrict': WHATEVER THE INPUT: true; the input reads as it did. -/
def fnExactStrictSpec : ChangeSpec := { name := "fnExactStrict", fn := fun _ => fun
  | [d] => { results := [.lit (.bool true)], args := [d] }
  | _ => none }
def fnExactStrictRow : OpenClaim := { program := "ytficaacenneniaa", sum := "846d837f7e2e0625349fbfd179f460918ac21d52653a95732be14f22383c0fed", func := "loop.example/g01608/laws.FnExactStrict", spec := "fnExactStrict", inPlace := ["slices.overlaps[int]"], unfollowed := true, recurses := true, apart := false }
def FnExactStrictSaid : Prop := fnExactStrictRow.holds Try.pinned (OpenSpec.ofChange fnExactStrictSpec)

/-- ITS FALSE NEIGHBOUR: 'it returns false'. Refute it at one input. -/
def fnExactStrictWrong : ChangeSpec := { name := "fnExactStrict", fn := fun _ => fun
  | [d] => { results := [.lit (.bool false)], args := [d] }
  | _ => none }
def FnExactStrictWrongFalsely : Prop := fnExactStrictRow.holds Try.pinned (OpenSpec.ofChange fnExactStrictWrong)

/-- 'laws.FnExactDraining': WHATEVER THE INPUT: true; the input reads as it did. -/
def fnExactDrainingSpec : ChangeSpec := { name := "fnExactDraining", fn := fun _ => fun
  | [d1, d2] => { results := [.lit (.bool true)], args := [d1, d2] }
  | _ => none }
def fnExactDrainingRow : OpenClaim := { program := "ytficaacenneniaa", sum := "846d837f7e2e0625349fbfd179f460918ac21d52653a95732be14f22383c0fed", func := "loop.example/g01608/laws.FnExactDraining", spec := "fnExactDraining", apart := false }
def FnExactDrainingSaid : Prop := fnExactDrainingRow.holds Try.pinned (OpenSpec.ofChange fnExactDrainingSpec)

/-- ITS FALSE NEIGHBOUR: 'it returns false'. Refute it at one input. -/
def fnExactDrainingWrong : ChangeSpec := { name := "fnExactDraining", fn := fun _ => fun
  | [d1, d2] => { results := [.lit (.bool false)], args := [d1, d2] }
  | _ => none }
def FnExactDrainingWrongFalsely : Prop := fnExactDrainingRow.holds Try.pinned (OpenSpec.ofChange fnExactDrainingWrong)

/-- 'laws.FnExactIdle': WHATEVER THE INPUT: true; the input reads as it did. -/
def fnExactIdleSpec : ChangeSpec := { name := "fnExactIdle", fn := fun _ => fun
  | [d] => { results := [.lit (.bool true)], args := [d] }
  | _ => none }
def fnExactIdleRow : OpenClaim := { program := "ytficaacenneniaa", sum := "846d837f7e2e0625349fbfd179f460918ac21d52653a95732be14f22383c0fed", func := "loop.example/g01608/laws.FnExactIdle", spec := "fnExactIdle", unfollowed := true, recurses := true, apart := false }
def FnExactIdleSaid : Prop := fnExactIdleRow.holds Try.pinned (OpenSpec.ofChange fnExactIdleSpec)

/-- ITS FALSE NEIGHBOUR: 'it returns false'. Refute it at one input. -/
def fnExactIdleWrong : ChangeSpec := { name := "fnExactIdle", fn := fun _ => fun
  | [d] => { results := [.lit (.bool false)], args := [d] }
  | _ => none }
def FnExactIdleWrongFalsely : Prop := fnExactIdleRow.holds Try.pinned (OpenSpec.ofChange fnExactIdleWrong)

/-- 'laws.FnExactOrder': WHATEVER THE INPUT: true; the input reads as it did. -/
def fnExactOrderSpec : ChangeSpec := { name := "fnExactOrder", fn := fun _ => fun
  | [d] => { results := [.lit (.bool true)], args := [d] }
  | _ => none }
def fnExactOrderRow : OpenClaim := { program := "ytficaacenneniaa", sum := "846d837f7e2e0625349fbfd179f460918ac21d52653a95732be14f22383c0fed", func := "loop.example/g01608/laws.FnExactOrder", spec := "fnExactOrder", inPlace := ["slices.overlaps[int]"], unfollowed := true, recurses := true, apart := false }
def FnExactOrderSaid : Prop := fnExactOrderRow.holds Try.pinned (OpenSpec.ofChange fnExactOrderSpec)

/-- ITS FALSE NEIGHBOUR: 'it returns false'. Refute it at one input. -/
def fnExactOrderWrong : ChangeSpec := { name := "fnExactOrder", fn := fun _ => fun
  | [d] => { results := [.lit (.bool false)], args := [d] }
  | _ => none }
def FnExactOrderWrongFalsely : Prop := fnExactOrderRow.holds Try.pinned (OpenSpec.ofChange fnExactOrderWrong)

/-- 'laws.FnExactSameWorld': WHATEVER THE INPUT: true; the input reads as it did. -/
def fnExactSameWorldSpec : ChangeSpec := { name := "fnExactSameWorld", fn := fun _ => fun
  | [d1, d2] => { results := [.lit (.bool true)], args := [d1, d2] }
  | _ => none }
def fnExactSameWorldRow : OpenClaim := { program := "ytficaacenneniaa", sum := "846d837f7e2e0625349fbfd179f460918ac21d52653a95732be14f22383c0fed", func := "loop.example/g01608/laws.FnExactSameWorld", spec := "fnExactSameWorld", unfollowed := true, recurses := true, apart := false }
def FnExactSameWorldSaid : Prop := fnExactSameWorldRow.holds Try.pinned (OpenSpec.ofChange fnExactSameWorldSpec)

/-- ITS FALSE NEIGHBOUR: 'it returns false'. Refute it at one input. -/
def fnExactSameWorldWrong : ChangeSpec := { name := "fnExactSameWorld", fn := fun _ => fun
  | [d1, d2] => { results := [.lit (.bool false)], args := [d1, d2] }
  | _ => none }
def FnExactSameWorldWrongFalsely : Prop := fnExactSameWorldRow.holds Try.pinned (OpenSpec.ofChange fnExactSameWorldWrong)

/-- 'laws.FnExactSumOf': WHATEVER THE INPUT: true; the input reads as it did. -/
def fnExactSumOfSpec : ChangeSpec := { name := "fnExactSumOf", fn := fun _ => fun
  | [d1, d2] => { results := [.lit (.bool true)], args := [d1, d2] }
  | _ => none }
def fnExactSumOfRow : OpenClaim := { program := "ytficaacenneniaa", sum := "846d837f7e2e0625349fbfd179f460918ac21d52653a95732be14f22383c0fed", func := "loop.example/g01608/laws.FnExactSumOf", spec := "fnExactSumOf", recurses := true, apart := false }
def FnExactSumOfSaid : Prop := fnExactSumOfRow.holds Try.pinned (OpenSpec.ofChange fnExactSumOfSpec)

/-- ITS FALSE NEIGHBOUR: 'it returns false'. Refute it at one input. -/
def fnExactSumOfWrong : ChangeSpec := { name := "fnExactSumOf", fn := fun _ => fun
  | [d1, d2] => { results := [.lit (.bool false)], args := [d1, d2] }
  | _ => none }
def FnExactSumOfWrongFalsely : Prop := fnExactSumOfRow.holds Try.pinned (OpenSpec.ofChange fnExactSumOfWrong)

/- THE SECOND FORM. 'bulk': how many values and letters a reading holds, each counted each time it is reached (what is shared counts as often as it is met; a slice's spare places count too). A statement '..UptoSaid' is the law's where the arguments, and the package variables that the reading takes, are together of bulk at most 1048576: NARROWER than '..Said'. Prove '..Said' where nothing that the law and all that it calls make is longer than what came in: it says more and counts as full. Else prove '..UptoSaid'. A law counts once. -/
mutual
def uptoBulk {H : Type} : DataW H → Nat
  | .lit (.string bytes) => bytes.length + 1
  | .lit _ => 1
  | .nil => 1
  | .ptr d => uptoBulk d + 1
  | .slice elems spare => uptoBulkAll elems + uptoBulkAll spare + 1
  | .agg parts => uptoBulkAll parts + 1
  | .iface _ d => uptoBulk d + 1
  | .map entries => uptoBulkEntries entries + 1
  | .held _ => 1
def uptoBulkAll {H : Type} : List (DataW H) → Nat
  | [] => 0
  | d :: r => uptoBulk d + uptoBulkAll r
def uptoBulkEntries {H : Type} : List (Lit × DataW H) → Nat
  | [] => 0
  | x :: r => uptoBulkEntry x + uptoBulkEntries r
def uptoBulkEntry {H : Type} : Lit × DataW H → Nat
  | (.string bytes, d) => bytes.length + uptoBulk d + 1
  | (_, d) => uptoBulk d + 1
 end
def uptoSmall : (H : Type) → List (DataW H) → Bool := fun _ ds => decide (uptoBulkAll ds ≤ 1048576)
def OpenSpec.upto (s : _root_.Go.ChangeSpec) : _root_.Go.OpenSpec := { _root_.Go.OpenSpec.ofChange s with cond := some uptoSmall }

/-- 'laws.FnExactEffAt', WHERE WHAT IT READS IS OF BULK AT MOST 1048576: true; the input reads as it did. -/
def fnExactEffAtUptoRow : OpenClaim := { program := "ytficaacenneniaa", sum := "846d837f7e2e0625349fbfd179f460918ac21d52653a95732be14f22383c0fed", func := "loop.example/g01608/laws.FnExactEffAt", spec := "fnExactEffAt", unfollowed := true, recurses := true, apart := false, narrowed := true }
def FnExactEffAtUptoSaid : Prop := fnExactEffAtUptoRow.holds Try.pinned (OpenSpec.upto fnExactEffAtSpec)

/-- 'laws.FnExactAhead', WHERE WHAT IT READS IS OF BULK AT MOST 1048576: true; the input reads as it did. -/
def fnExactAheadUptoRow : OpenClaim := { program := "ytficaacenneniaa", sum := "846d837f7e2e0625349fbfd179f460918ac21d52653a95732be14f22383c0fed", func := "loop.example/g01608/laws.FnExactAhead", spec := "fnExactAhead", unfollowed := true, recurses := true, apart := false, narrowed := true }
def FnExactAheadUptoSaid : Prop := fnExactAheadUptoRow.holds Try.pinned (OpenSpec.upto fnExactAheadSpec)

/-- 'laws.FnExactRowFrom', WHERE WHAT IT READS IS OF BULK AT MOST 1048576: true; the input reads as it did. -/
def fnExactRowFromUptoRow : OpenClaim := { program := "ytficaacenneniaa", sum := "846d837f7e2e0625349fbfd179f460918ac21d52653a95732be14f22383c0fed", func := "loop.example/g01608/laws.FnExactRowFrom", spec := "fnExactRowFrom", apart := false, narrowed := true }
def FnExactRowFromUptoSaid : Prop := fnExactRowFromUptoRow.holds Try.pinned (OpenSpec.upto fnExactRowFromSpec)

/-- 'laws.FnExactModelOk', WHERE WHAT IT READS IS OF BULK AT MOST 1048576: true; the input reads as it did. -/
def fnExactModelOkUptoRow : OpenClaim := { program := "ytficaacenneniaa", sum := "846d837f7e2e0625349fbfd179f460918ac21d52653a95732be14f22383c0fed", func := "loop.example/g01608/laws.FnExactModelOk", spec := "fnExactModelOk", unfollowed := true, recurses := true, apart := false, narrowed := true }
def FnExactModelOkUptoSaid : Prop := fnExactModelOkUptoRow.holds Try.pinned (OpenSpec.upto fnExactModelOkSpec)

/-- 'laws.FnExactRowIn', WHERE WHAT IT READS IS OF BULK AT MOST 1048576: true; the input reads as it did. -/
def fnExactRowInUptoRow : OpenClaim := { program := "ytficaacenneniaa", sum := "846d837f7e2e0625349fbfd179f460918ac21d52653a95732be14f22383c0fed", func := "loop.example/g01608/laws.FnExactRowIn", spec := "fnExactRowIn", unfollowed := true, recurses := true, apart := false, narrowed := true }
def FnExactRowInUptoSaid : Prop := fnExactRowInUptoRow.holds Try.pinned (OpenSpec.upto fnExactRowInSpec)

/-- 'laws.FnExactRecordNow', WHERE WHAT IT READS IS OF BULK AT MOST 1048576: true; the input reads as it did. -/
def fnExactRecordNowUptoRow : OpenClaim := { program := "ytficaacenneniaa", sum := "846d837f7e2e0625349fbfd179f460918ac21d52653a95732be14f22383c0fed", func := "loop.example/g01608/laws.FnExactRecordNow", spec := "fnExactRecordNow", unfollowed := true, recurses := true, apart := false, narrowed := true }
def FnExactRecordNowUptoSaid : Prop := fnExactRecordNowUptoRow.holds Try.pinned (OpenSpec.upto fnExactRecordNowSpec)

/-- 'laws.FnExactStrict', WHERE WHAT IT READS IS OF BULK AT MOST 1048576: true; the input reads as it did. -/
def fnExactStrictUptoRow : OpenClaim := { program := "ytficaacenneniaa", sum := "846d837f7e2e0625349fbfd179f460918ac21d52653a95732be14f22383c0fed", func := "loop.example/g01608/laws.FnExactStrict", spec := "fnExactStrict", inPlace := ["slices.overlaps[int]"], unfollowed := true, recurses := true, apart := false, narrowed := true }
def FnExactStrictUptoSaid : Prop := fnExactStrictUptoRow.holds Try.pinned (OpenSpec.upto fnExactStrictSpec)

/-- 'laws.FnExactDraining', WHERE WHAT IT READS IS OF BULK AT MOST 1048576: true; the input reads as it did. -/
def fnExactDrainingUptoRow : OpenClaim := { program := "ytficaacenneniaa", sum := "846d837f7e2e0625349fbfd179f460918ac21d52653a95732be14f22383c0fed", func := "loop.example/g01608/laws.FnExactDraining", spec := "fnExactDraining", apart := false, narrowed := true }
def FnExactDrainingUptoSaid : Prop := fnExactDrainingUptoRow.holds Try.pinned (OpenSpec.upto fnExactDrainingSpec)

/-- 'laws.FnExactIdle', WHERE WHAT IT READS IS OF BULK AT MOST 1048576: true; the input reads as it did. -/
def fnExactIdleUptoRow : OpenClaim := { program := "ytficaacenneniaa", sum := "846d837f7e2e0625349fbfd179f460918ac21d52653a95732be14f22383c0fed", func := "loop.example/g01608/laws.FnExactIdle", spec := "fnExactIdle", unfollowed := true, recurses := true, apart := false, narrowed := true }
def FnExactIdleUptoSaid : Prop := fnExactIdleUptoRow.holds Try.pinned (OpenSpec.upto fnExactIdleSpec)

/-- 'laws.FnExactOrder', WHERE WHAT IT READS IS OF BULK AT MOST 1048576: true; the input reads as it did. -/
def fnExactOrderUptoRow : OpenClaim := { program := "ytficaacenneniaa", sum := "846d837f7e2e0625349fbfd179f460918ac21d52653a95732be14f22383c0fed", func := "loop.example/g01608/laws.FnExactOrder", spec := "fnExactOrder", inPlace := ["slices.overlaps[int]"], unfollowed := true, recurses := true, apart := false, narrowed := true }
def FnExactOrderUptoSaid : Prop := fnExactOrderUptoRow.holds Try.pinned (OpenSpec.upto fnExactOrderSpec)

/-- 'laws.FnExactSameWorld', WHERE WHAT IT READS IS OF BULK AT MOST 1048576: true; the input reads as it did. -/
def fnExactSameWorldUptoRow : OpenClaim := { program := "ytficaacenneniaa", sum := "846d837f7e2e0625349fbfd179f460918ac21d52653a95732be14f22383c0fed", func := "loop.example/g01608/laws.FnExactSameWorld", spec := "fnExactSameWorld", unfollowed := true, recurses := true, apart := false, narrowed := true }
def FnExactSameWorldUptoSaid : Prop := fnExactSameWorldUptoRow.holds Try.pinned (OpenSpec.upto fnExactSameWorldSpec)

/-- 'laws.FnExactSumOf', WHERE WHAT IT READS IS OF BULK AT MOST 1048576: true; the input reads as it did. -/
def fnExactSumOfUptoRow : OpenClaim := { program := "ytficaacenneniaa", sum := "846d837f7e2e0625349fbfd179f460918ac21d52653a95732be14f22383c0fed", func := "loop.example/g01608/laws.FnExactSumOf", spec := "fnExactSumOf", recurses := true, apart := false, narrowed := true }
def FnExactSumOfUptoSaid : Prop := fnExactSumOfUptoRow.holds Try.pinned (OpenSpec.upto fnExactSumOfSpec)

end Rows
end Go.Proofs.Ytficaacenneniaa
