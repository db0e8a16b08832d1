/-
  No cell of these rows narrows 'for every input' (looked for: loops, veiled, ifaces, maps, wideKeys, modest, calm, conditions, laid).
  DERIVED. THE GIVEN ROWS OF THIS SEAT. 12 by the template 'for every input the law returns true; each argument reads behind the call as it read before'; 0 by the template 'total and deterministic' (their statements: YtiapkahjolbgmaaTotals.lean).
  GIVEN WITH THE SEED: the statements are not yours to turn. If you find one false, say at which input.
  Laid BY PROGRAM, IN A SANDBOX (cutbox-rows.mjs): the forced cells as the released guide's own fill.sh prints them over the translation 1bf265dae415fc11… (all of the seat's roots in one cut). By AI agents, Wed Nov 11 2026. No macro, syntax, notation, axiom, sorry.
-/
import Derived.Test.YtiapkahjolbgmaaChecked
import GoSem.Claim
import GoSem.ClaimJoined
import GoSem.ClaimMapViews
import Derived.JoinedTies
import Derived.KernelRfl
namespace Go.Proofs.Ytiapkahjolbgmaa
/- THE CELL 'sum', in the pinned program and in every row, IS THE sha256 OF THE DUMP (.gsa) THAT YtiapkahjolbgmaaProg.lean LOADS. Nothing in Lean hashes anything: it is a label: what it is worth is what the hold of that sum in a sandbox is worth. -/
noncomputable def Try.pinned : Pinned := { name := "ytiapkahjolbgmaa", sum := "1bf265dae415fc112936100018523445d0258356de4f11209fcbe74bc6b22b7f", checked := Try.checked }
namespace Rows
def none {H : Type} : Left H := { results := [], args := [] }

/-- 'laws.FnExactPcWord': WHATEVER THE INPUT: true; the input reads as it did. -/
def fnExactPcWordSpec : ChangeSpec := { name := "fnExactPcWord", fn := fun _ => fun
  | [d] => { results := [.lit (.bool true)], args := [d] }
  | _ => none }
def fnExactPcWordRow : OpenClaim := { program := "ytiapkahjolbgmaa", sum := "1bf265dae415fc112936100018523445d0258356de4f11209fcbe74bc6b22b7f", func := "loop.example/g01608/laws.FnExactPcWord", spec := "fnExactPcWord", apart := false }
def FnExactPcWordSaid : Prop := fnExactPcWordRow.holds Try.pinned (OpenSpec.ofChange fnExactPcWordSpec)

/-- ITS FALSE NEIGHBOUR: 'it returns false'. Refute it at one input. -/
def fnExactPcWordWrong : ChangeSpec := { name := "fnExactPcWord", fn := fun _ => fun
  | [d] => { results := [.lit (.bool false)], args := [d] }
  | _ => none }
def FnExactPcWordWrongFalsely : Prop := fnExactPcWordRow.holds Try.pinned (OpenSpec.ofChange fnExactPcWordWrong)

/-- 'laws.FnExactOpOk': WHATEVER THE INPUT: true; the input reads as it did. -/
def fnExactOpOkSpec : ChangeSpec := { name := "fnExactOpOk", fn := fun _ => fun
  | [d] => { results := [.lit (.bool true)], args := [d] }
  | _ => none }
def fnExactOpOkRow : OpenClaim := { program := "ytiapkahjolbgmaa", sum := "1bf265dae415fc112936100018523445d0258356de4f11209fcbe74bc6b22b7f", func := "loop.example/g01608/laws.FnExactOpOk", spec := "fnExactOpOk", apart := false }
def FnExactOpOkSaid : Prop := fnExactOpOkRow.holds Try.pinned (OpenSpec.ofChange fnExactOpOkSpec)

/-- ITS FALSE NEIGHBOUR: 'it returns false'. Refute it at one input. -/
def fnExactOpOkWrong : ChangeSpec := { name := "fnExactOpOk", fn := fun _ => fun
  | [d] => { results := [.lit (.bool false)], args := [d] }
  | _ => none }
def FnExactOpOkWrongFalsely : Prop := fnExactOpOkRow.holds Try.pinned (OpenSpec.ofChange fnExactOpOkWrong)

/-- 'laws.FnExactModelKind': WHATEVER THE INPUT: true; the input reads as it did. -/
def fnExactModelKindSpec : ChangeSpec := { name := "fnExactModelKind", fn := fun _ => fun
  | [d1, d2] => { results := [.lit (.bool true)], args := [d1, d2] }
  | _ => none }
def fnExactModelKindRow : OpenClaim := { program := "ytiapkahjolbgmaa", sum := "1bf265dae415fc112936100018523445d0258356de4f11209fcbe74bc6b22b7f", func := "loop.example/g01608/laws.FnExactModelKind", spec := "fnExactModelKind", apart := false }
def FnExactModelKindSaid : Prop := fnExactModelKindRow.holds Try.pinned (OpenSpec.ofChange fnExactModelKindSpec)

/-- ITS FALSE NEIGHBOUR: 'it returns false'. Refute it at one input. -/
def fnExactModelKindWrong : ChangeSpec := { name := "fnExactModelKind", fn := fun _ => fun
  | [d1, d2] => { results := [.lit (.bool false)], args := [d1, d2] }
  | _ => none }
def FnExactModelKindWrongFalsely : Prop := fnExactModelKindRow.holds Try.pinned (OpenSpec.ofChange fnExactModelKindWrong)

/-- 'laws.FnExactSameModel': WHATEVER THE INPUT: true; the input reads as it did. -/
def fnExactSameModelSpec : ChangeSpec := { name := "fnExactSameModel", fn := fun _ => fun
  | [d1, d2] => { results := [.lit (.bool true)], args := [d1, d2] }
  | _ => none }
def fnExactSameModelRow : OpenClaim := { program := "ytiapkahjolbgmaa", sum := "1bf265dae415fc112936100018523445d0258356de4f11209fcbe74bc6b22b7f", func := "loop.example/g01608/laws.FnExactSameModel", spec := "fnExactSameModel", apart := false }
def FnExactSameModelSaid : Prop := fnExactSameModelRow.holds Try.pinned (OpenSpec.ofChange fnExactSameModelSpec)

/-- ITS FALSE NEIGHBOUR: 'it returns false'. Refute it at one input. -/
def fnExactSameModelWrong : ChangeSpec := { name := "fnExactSameModel", fn := fun _ => fun
  | [d1, d2] => { results := [.lit (.bool false)], args := [d1, d2] }
  | _ => none }
def FnExactSameModelWrongFalsely : Prop := fnExactSameModelRow.holds Try.pinned (OpenSpec.ofChange fnExactSameModelWrong)

/-- 'laws.FnExactTodoOk': WHATEVER THE INPUT: true; the input reads as it did. -/
def fnExactTodoOkSpec : ChangeSpec := { name := "fnExactTodoOk", fn := fun _ => fun
  | [d] => { results := [.lit (.bool true)], args := [d] }
  | _ => none }
def fnExactTodoOkRow : OpenClaim := { program := "ytiapkahjolbgmaa", sum := "1bf265dae415fc112936100018523445d0258356de4f11209fcbe74bc6b22b7f", func := "loop.example/g01608/laws.FnExactTodoOk", spec := "fnExactTodoOk", apart := false }
def FnExactTodoOkSaid : Prop := fnExactTodoOkRow.holds Try.pinned (OpenSpec.ofChange fnExactTodoOkSpec)

/-- ITS FALSE NEIGHBOUR: 'it returns false'. Refute it at one input. -/
def fnExactTodoOkWrong : ChangeSpec := { name := "fnExactTodoOk", fn := fun _ => fun
  | [d] => { results := [.lit (.bool false)], args := [d] }
  | _ => none }
def FnExactTodoOkWrongFalsely : Prop := fnExactTodoOkRow.holds Try.pinned (OpenSpec.ofChange fnExactTodoOkWrong)

/-- 'laws.FnExactModelRow': WHATEVER THE INPUT: true; the input reads as it did. -/
def fnExactModelRowSpec : ChangeSpec := { name := "fnExactModelRow", fn := fun _ => fun
  | [d1, d2] => { results := [.lit (.bool true)], args := [d1, d2] }
  | _ => none }
def fnExactModelRowRow : OpenClaim := { program := "ytiapkahjolbgmaa", sum := "1bf265dae415fc112936100018523445d0258356de4f11209fcbe74bc6b22b7f", func := "loop.example/g01608/laws.FnExactModelRow", spec := "fnExactModelRow", unfollowed := true, recurses := true, apart := false }
def FnExactModelRowSaid : Prop := fnExactModelRowRow.holds Try.pinned (OpenSpec.ofChange fnExactModelRowSpec)

/-- ITS FALSE NEIGHBOUR: 'it returns false'. Refute it at one input. -/
def fnExactModelRowWrong : ChangeSpec := { name := "fnExactModelRow", fn := fun _ => fun
  | [d1, d2] => { results := [.lit (.bool false)], args := [d1, d2] }
  | _ => none }
def FnExactModelRowWrongFalsely : Prop := fnExactModelRowRow.holds Try.pinned (OpenSpec.ofChange fnExactModelRowWrong)

/-- 'laws.FnExactSwapAt': WHATEVER THE INPUT: true; the input reads as it did. -/
def fnExactSwapAtSpec : ChangeSpec := { name := "fnExactSwapAt", fn := fun _ => fun
  | [d1, d2] => { results := [.lit (.bool true)], args := [d1, d2] }
  | _ => none }
def fnExactSwapAtRow : OpenClaim := { program := "ytiapkahjolbgmaa", sum := "1bf265dae415fc112936100018523445d0258356de4f11209fcbe74bc6b22b7f", func := "loop.example/g01608/laws.FnExactSwapAt", spec := "fnExactSwapAt", apart := false }
def FnExactSwapAtSaid : Prop := fnExactSwapAtRow.holds Try.pinned (OpenSpec.ofChange fnExactSwapAtSpec)

/-- ITS FALSE NEIGHBOUR: 'it returns false'. Refute it at one input. -/
def fnExactSwapAtWrong : ChangeSpec := { name := "fnExactSwapAt", fn := fun _ => fun
  | [d1, d2] => { results := [.lit (.bool false)], args := [d1, d2] }
  | _ => none }
def FnExactSwapAtWrongFalsely : Prop := fnExactSwapAtRow.holds Try.pinned (OpenSpec.ofChange fnExactSwapAtWrong)

/-- 'laws.FnExactAmong': WHATEVER THE INPUT: true; the input reads as it did. -/
def fnExactAmongSpec : ChangeSpec := { name := "fnExactAmong", fn := fun _ => fun
  | [d1, d2] => { results := [.lit (.bool true)], args := [d1, d2] }
  | _ => none }
def fnExactAmongRow : OpenClaim := { program := "ytiapkahjolbgmaa", sum := "1bf265dae415fc112936100018523445d0258356de4f11209fcbe74bc6b22b7f", func := "loop.example/g01608/laws.FnExactAmong", spec := "fnExactAmong", apart := false }
def FnExactAmongSaid : Prop := fnExactAmongRow.holds Try.pinned (OpenSpec.ofChange fnExactAmongSpec)

/-- ITS FALSE NEIGHBOUR: 'it returns false'. Refute it at one input. -/
def fnExactAmongWrong : ChangeSpec := { name := "fnExactAmong", fn := fun _ => fun
  | [d1, d2] => { results := [.lit (.bool false)], args := [d1, d2] }
  | _ => none }
def FnExactAmongWrongFalsely : Prop := fnExactAmongRow.holds Try.pinned (OpenSpec.ofChange fnExactAmongWrong)

/-- 'laws.FnExactCodesIn': WHATEVER THE INPUT: true; the input reads as it did. -/
def fnExactCodesInSpec : ChangeSpec := { name := "fnExactCodesIn", fn := fun _ => fun
  | [d1, d2] => { results := [.lit (.bool true)], args := [d1, d2] }
  | _ => none }
def fnExactCodesInRow : OpenClaim := { program := "ytiapkahjolbgmaa", sum := "1bf265dae415fc112936100018523445d0258356de4f11209fcbe74bc6b22b7f", func := "loop.example/g01608/laws.FnExactCodesIn", spec := "fnExactCodesIn", apart := false }
def FnExactCodesInSaid : Prop := fnExactCodesInRow.holds Try.pinned (OpenSpec.ofChange fnExactCodesInSpec)

/-- ITS FALSE NEIGHBOUR: 'it returns false'. Refute it at one input. -/
def fnExactCodesInWrong : ChangeSpec := { name := "fnExactCodesIn", fn := fun _ => fun
  | [d1, d2] => { results := [.lit (.bool false)], args := [d1, d2] }
  | _ => none }
def FnExactCodesInWrongFalsely : Prop := fnExactCodesInRow.holds Try.pinned (OpenSpec.ofChange fnExactCodesInWrong)

/-- 'laws.FnExactPlaceOf': WHATEVER THE INPUT: true; the input reads as it did. -/
def fnExactPlaceOfSpec : ChangeSpec := { name := "fnExactPlaceOf", fn := fun _ => fun
  | [d1, d2, d3] => { results := [.lit (.bool true)], args := [d1, d2, d3] }
  | _ => none }
def fnExactPlaceOfRow : OpenClaim := { program := "ytiapkahjolbgmaa", sum := "1bf265dae415fc112936100018523445d0258356de4f11209fcbe74bc6b22b7f", func := "loop.example/g01608/laws.FnExactPlaceOf", spec := "fnExactPlaceOf", unfollowed := true, recurses := true, apart := false }
def FnExactPlaceOfSaid : Prop := fnExactPlaceOfRow.holds Try.pinned (OpenSpec.ofChange fnExactPlaceOfSpec)

/-- ITS FALSE NEIGHBOUR: 'it returns false'. Refute it at one input. -/
def fnExactPlaceOfWrong : ChangeSpec := { name := "fnExactPlaceOf", fn := fun _ => fun
  | [d1, d2, d3] => { results := [.lit (.bool false)], args := [d1, d2, d3] }
  | _ => none }
def FnExactPlaceOfWrongFalsely : Prop := fnExactPlaceOfRow.holds Try.pinned (OpenSpec.ofChange fnExactPlaceOfWrong)

/-- 'laws.FnExactInTime': WHATEVER THE INPUT: true; the input reads as it did. -/
def fnExactInTimeSpec : ChangeSpec := { name := "fnExactInTime", fn := fun _ => fun
  | [d1, d2, d3] => { results := [.lit (.bool true)], args := [d1, d2, d3] }
  | _ => none }
def fnExactInTimeRow : OpenClaim := { program := "ytiapkahjolbgmaa", sum := "1bf265dae415fc112936100018523445d0258356de4f11209fcbe74bc6b22b7f", func := "loop.example/g01608/laws.FnExactInTime", spec := "fnExactInTime", unfollowed := true, recurses := true, apart := false }
def FnExactInTimeSaid : Prop := fnExactInTimeRow.holds Try.pinned (OpenSpec.ofChange fnExactInTimeSpec)

/-- ITS FALSE NEIGHBOUR: 'it returns false'. Refute it at one input. -/
def fnExactInTimeWrong : ChangeSpec := { name := "fnExactInTime", fn := fun _ => fun
  | [d1, d2, d3] => { results := [.lit (.bool false)], args := [d1, d2, d3] }
  | _ => none }
def FnExactInTimeWrongFalsely : Prop := fnExactInTimeRow.holds Try.pinned (OpenSpec.ofChange fnExactInTimeWrong)

/-- 'laws.FnExactJobOk': WHATEVER THE INPUT: true; the input reads as it did. -/
def fnExactJobOkSpec : ChangeSpec := { name := "fnExactJobOk", fn := fun _ => fun
  | [d] => { results := [.lit (.bool true)], args := [d] }
  | _ => none }
def fnExactJobOkRow : OpenClaim := { program := "ytiapkahjolbgmaa", sum := "1bf265dae415fc112936100018523445d0258356de4f11209fcbe74bc6b22b7f", func := "loop.example/g01608/laws.FnExactJobOk", spec := "fnExactJobOk", apart := false }
def FnExactJobOkSaid : Prop := fnExactJobOkRow.holds Try.pinned (OpenSpec.ofChange fnExactJobOkSpec)

/-- ITS FALSE NEIGHBOUR: 'it returns false'. Refute it at one input. -/
def fnExactJobOkWrong : ChangeSpec := { name := "fnExactJobOk", fn := fun _ => fun
  | [d] => { results := [.lit (.bool false)], args := [d] }
  | _ => none }
def FnExactJobOkWrongFalsely : Prop := fnExactJobOkRow.holds Try.pinned (OpenSpec.ofChange fnExactJobOkWrong)

/- THE SECOND FORM. 'bulk': how many values and letters a reading holds, each counted each time it is reached (what is shared counts as often as it is met; a slice's spare places count too). A statement '..UptoSaid' is the law's where the arguments, and the package variables that the reading takes, are together of bulk at most 1048576: NARROWER than '..Said'. Prove '..Said' where nothing that the law and all that it calls make is longer than what came in: it says more and counts as full. Else prove '..UptoSaid'. A law counts once. -/
mutual
def uptoBulk {H : Type} : DataW H → Nat
  | .lit (.string bytes) => bytes.length + 1
  | .lit _ => 1
  | .nil => 1
  | .ptr d => uptoBulk d + 1
  | .slice elems spare => uptoBulkAll elems + uptoBulkAll spare + 1
  | .agg parts => uptoBulkAll parts + 1
  | .iface _ d => uptoBulk d + 1
  | .map entries => uptoBulkEntries entries + 1
  | .held _ => 1
def uptoBulkAll {H : Type} : List (DataW H) → Nat
  | [] => 0
  | d :: r => uptoBulk d + uptoBulkAll r
def uptoBulkEntries {H : Type} : List (Lit × DataW H) → Nat
  | [] => 0
  | x :: r => uptoBulkEntry x + uptoBulkEntries r
def uptoBulkEntry {H : Type} : Lit × DataW H → Nat
  | (.string bytes, d) => bytes.length + uptoBulk d + 1
  | (_, d) => uptoBulk d + 1
 end
def uptoSmall : (H : Type) → List (DataW H) → Bool := fun _ ds => decide (uptoBulkAll ds ≤ 1048576)
def OpenSpec.upto (s : _root_.Go.ChangeSpec) : _root_.Go.OpenSpec := { _root_.Go.OpenSpec.ofChange s with cond := some uptoSmall }

/-- 'laws.FnExactPcWord', WHERE WHAT IT READS IS OF BULK AT MOST 1048576: true; the input reads as it did. -/
def fnExactPcWordUptoRow : OpenClaim := { program := "ytiapkahjolbgmaa", sum := "1bf265dae415fc112936100018523445d0258356de4f11209fcbe74bc6b22b7f", func := "loop.example/g01608/laws.FnExactPcWord", spec := "fnExactPcWord", apart := false, narrowed := true }
def FnExactPcWordUptoSaid : Prop := fnExactPcWordUptoRow.holds Try.pinned (OpenSpec.upto fnExactPcWordSpec)

/-- 'laws.FnExactOpOk', WHERE WHAT IT READS IS OF BULK AT MOST 1048576: true; the input reads as it did. -/
def fnExactOpOkUptoRow : OpenClaim := { program := "ytiapkahjolbgmaa", sum := "1bf265dae415fc112936100018523445d0258356de4f11209fcbe74bc6b22b7f", func := "loop.example/g01608/laws.FnExactOpOk", spec := "fnExactOpOk", apart := false, narrowed := true }
def FnExactOpOkUptoSaid : Prop := fnExactOpOkUptoRow.holds Try.pinned (OpenSpec.upto fnExactOpOkSpec)

/-- 'laws.FnExactModelKind', WHERE WHAT IT READS IS OF BULK AT MOST 1048576: true; the input reads as it did. -/
def fnExactModelKindUptoRow : OpenClaim := { program := "ytiapkahjolbgmaa", sum := "1bf265dae415fc112936100018523445d0258356de4f11209fcbe74bc6b22b7f", func := "loop.example/g01608/laws.FnExactModelKind", spec := "fnExactModelKind", apart := false, narrowed := true }
def FnExactModelKindUptoSaid : Prop := fnExactModelKindUptoRow.holds Try.pinned (OpenSpec.upto fnExactModelKindSpec)

/-- 'laws.FnExactSameModel', WHERE WHAT IT READS IS OF BULK AT MOST 1048576: true; the input reads as it did. -/
def fnExactSameModelUptoRow : OpenClaim := { program := "ytiapkahjolbgmaa", sum := "1bf265dae415fc112936100018523445d0258356de4f11209fcbe74bc6b22b7f", func := "loop.example/g01608/laws.FnExactSameModel", spec := "fnExactSameModel", apart := false, narrowed := true }
def FnExactSameModelUptoSaid : Prop := fnExactSameModelUptoRow.holds Try.pinned (OpenSpec.upto fnExactSameModelSpec)

/-- 'laws.FnExactTodoOk', WHERE WHAT IT READS IS OF BULK AT MOST 1048576: true; the input reads as it did. -/
def fnExactTodoOkUptoRow : OpenClaim := { program := "ytiapkahjolbgmaa", sum := "1bf265dae415fc112936100018523445d0258356de4f11209fcbe74bc6b22b7f", func := "loop.example/g01608/laws.FnExactTodoOk", spec := "fnExactTodoOk", apart := false, narrowed := true }
def FnExactTodoOkUptoSaid : Prop := fnExactTodoOkUptoRow.holds Try.pinned (OpenSpec.upto fnExactTodoOkSpec)

/-- 'laws.FnExactModelRow', WHERE WHAT IT READS IS OF BULK AT MOST 1048576: true; the input reads as it did. -/
def fnExactModelRowUptoRow : OpenClaim := { program := "ytiapkahjolbgmaa", sum := "1bf265dae415fc112936100018523445d0258356de4f11209fcbe74bc6b22b7f", func := "loop.example/g01608/laws.FnExactModelRow", spec := "fnExactModelRow", unfollowed := true, recurses := true, apart := false, narrowed := true }
def FnExactModelRowUptoSaid : Prop := fnExactModelRowUptoRow.holds Try.pinned (OpenSpec.upto fnExactModelRowSpec)

/-- 'laws.FnExactSwapAt', WHERE WHAT IT READS IS OF BULK AT MOST 1048576: true; the input reads as it did. -/
def fnExactSwapAtUptoRow : OpenClaim := { program := "ytiapkahjolbgmaa", sum := "1bf265dae415fc112936100018523445d0258356de4f11209fcbe74bc6b22b7f", func := "loop.example/g01608/laws.FnExactSwapAt", spec := "fnExactSwapAt", apart := false, narrowed := true }
def FnExactSwapAtUptoSaid : Prop := fnExactSwapAtUptoRow.holds Try.pinned (OpenSpec.upto fnExactSwapAtSpec)

/-- 'laws.FnExactAmong', WHERE WHAT IT READS IS OF BULK AT MOST 1048576: true; the input reads as it did. -/
def fnExactAmongUptoRow : OpenClaim := { program := "ytiapkahjolbgmaa", sum := "1bf265dae415fc112936100018523445d0258356de4f11209fcbe74bc6b22b7f", func := "loop.example/g01608/laws.FnExactAmong", spec := "fnExactAmong", apart := false, narrowed := true }
def FnExactAmongUptoSaid : Prop := fnExactAmongUptoRow.holds Try.pinned (OpenSpec.upto fnExactAmongSpec)

/-- 'laws.FnExactCodesIn', WHERE WHAT IT READS IS OF BULK AT MOST 1048576: true; the input reads as it did. -/
def fnExactCodesInUptoRow : OpenClaim := { program := "ytiapkahjolbgmaa", sum := "1bf265dae415fc112936100018523445d0258356de4f11209fcbe74bc6b22b7f", func := "loop.example/g01608/laws.FnExactCodesIn", spec := "fnExactCodesIn", apart := false, narrowed := true }
def FnExactCodesInUptoSaid : Prop := fnExactCodesInUptoRow.holds Try.pinned (OpenSpec.upto fnExactCodesInSpec)

/-- 'laws.FnExactPlaceOf', WHERE WHAT IT READS IS OF BULK AT MOST 1048576: true; the input reads as it did. -/
def fnExactPlaceOfUptoRow : OpenClaim := { program := "ytiapkahjolbgmaa", sum := "1bf265dae415fc112936100018523445d0258356de4f11209fcbe74bc6b22b7f", func := "loop.example/g01608/laws.FnExactPlaceOf", spec := "fnExactPlaceOf", unfollowed := true, recurses := true, apart := false, narrowed := true }
def FnExactPlaceOfUptoSaid : Prop := fnExactPlaceOfUptoRow.holds Try.pinned (OpenSpec.upto fnExactPlaceOfSpec)

/-- 'laws.FnExactInTime', WHERE WHAT IT READS IS OF BULK AT MOST 1048576: true; the input reads as it did. -/
def fnExactInTimeUptoRow : OpenClaim := { program := "ytiapkahjolbgmaa", sum := "1bf265dae415fc112936100018523445d0258356de4f11209fcbe74bc6b22b7f", func := "loop.example/g01608/laws.FnExactInTime", spec := "fnExactInTime", unfollowed := true, recurses := true, apart := false, narrowed := true }
def FnExactInTimeUptoSaid : Prop := fnExactInTimeUptoRow.holds Try.pinned (OpenSpec.upto fnExactInTimeSpec)

/-- 'laws.FnExactJobOk', WHERE WHAT IT READS IS OF BULK AT MOST 1048576: true; the input reads as it did. -/
def fnExactJobOkUptoRow : OpenClaim := { program := "ytiapkahjolbgmaa", sum := "1bf265dae415fc112936100018523445d0258356de4f11209fcbe74bc6b22b7f", func := "loop.example/g01608/laws.FnExactJobOk", spec := "fnExactJobOk", apart := false, narrowed := true }
def FnExactJobOkUptoSaid : Prop := fnExactJobOkUptoRow.holds Try.pinned (OpenSpec.upto fnExactJobOkSpec)

end Rows
end Go.Proofs.Ytiapkahjolbgmaa
