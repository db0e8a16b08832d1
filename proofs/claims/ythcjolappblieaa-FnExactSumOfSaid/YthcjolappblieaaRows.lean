/-
  No cell of these rows narrows 'for every input' (looked for: loops, veiled, ifaces, maps, wideKeys, modest, calm, conditions, laid).
  DERIVED. THE GIVEN ROWS OF THIS SEAT. 12 by the template 'for every input the law returns true; each argument reads behind the call as it read before'; 0 by the template 'total and deterministic' (their statements: YthcjolappblieaaTotals.lean).
  GIVEN WITH THE SEED: the statements are not yours to turn. If you find one false, say at which input.
  Laid BY PROGRAM, IN A SANDBOX (cutbox-rows.mjs): the forced cells as the released guide's own fill.sh prints them over the translation 4539cebf1fd37086… (all of the seat's roots in one cut). By AI agents, Wed Nov 11 2026. No macro, syntax, notation, axiom, sorry.
-/
import Derived.Test.YthcjolappblieaaChecked
import GoSem.Claim
import GoSem.ClaimJoined
import GoSem.ClaimMapViews
import Derived.JoinedTies
import Derived.KernelRfl
namespace Go.Proofs.Ythcjolappblieaa
/- THE CELL 'sum', in the pinned program and in every row, IS THE sha256 OF THE DUMP (.gsa) THAT YthcjolappblieaaProg.lean LOADS. Nothing in Lean hashes anything: it is a label: what it is worth is what the hold of that sum in a sandbox is worth. -/
noncomputable def Try.pinned : Pinned := { name := "ythcjolappblieaa", sum := "4539cebf1fd3708681000d81d7480758bd3d89d3f054c3ab44ad5e9802aecb1a", checked := Try.checked }
namespace Rows
def none {H : Type} : Left H := { results := [], args := [] }

/-- 'laws.FnExactSameWorld': WHATEVER THE INPUT: true; the input reads as it did. -/
def fnExactSameWorldSpec : ChangeSpec := { name := "fnExactSameWorld", fn := fun _ => fun
  | [d1, d2] => { results := [.lit (.bool true)], args := [d1, d2] }
  | _ => none }
def fnExactSameWorldRow : OpenClaim := { program := "ythcjolappblieaa", sum := "4539cebf1fd3708681000d81d7480758bd3d89d3f054c3ab44ad5e9802aecb1a", func := "loop.example/g01608/laws.FnExactSameWorld", spec := "fnExactSameWorld", unfollowed := true, recurses := true, apart := false }
def FnExactSameWorldSaid : Prop := fnExactSameWorldRow.holds Try.pinned (OpenSpec.ofChange fnExactSameWorldSpec)

/-- ITS FALSE NEIGHBOUR: 'it returns false'. Refute it at one input. -/
def fnExactSameWorldWrong : ChangeSpec := { name := "fnExactSameWorld", fn := fun _ => fun
  | [d1, d2] => { results := [.lit (.bool false)], args := [d1, d2] }
  | _ => none }
def FnExactSameWorldWrongFalsely : Prop := fnExactSameWorldRow.holds Try.pinned (OpenSpec.ofChange fnExactSameWorldWrong)

/-- 'laws.FnExactModelOk': WHATEVER THE INPUT: true; the input reads as it did. -/
def fnExactModelOkSpec : ChangeSpec := { name := "fnExactModelOk", fn := fun _ => fun
  | [d] => { results := [.lit (.bool true)], args := [d] }
  | _ => none }
def fnExactModelOkRow : OpenClaim := { program := "ythcjolappblieaa", sum := "4539cebf1fd3708681000d81d7480758bd3d89d3f054c3ab44ad5e9802aecb1a", func := "loop.example/g01608/laws.FnExactModelOk", spec := "fnExactModelOk", unfollowed := true, recurses := true, apart := false }
def FnExactModelOkSaid : Prop := fnExactModelOkRow.holds Try.pinned (OpenSpec.ofChange fnExactModelOkSpec)

/-- ITS FALSE NEIGHBOUR: 'it returns false'. Refute it at one input. -/
def fnExactModelOkWrong : ChangeSpec := { name := "fnExactModelOk", fn := fun _ => fun
  | [d] => { results := [.lit (.bool false)], args := [d] }
  | _ => none }
def FnExactModelOkWrongFalsely : Prop := fnExactModelOkRow.holds Try.pinned (OpenSpec.ofChange fnExactModelOkWrong)

/-- 'laws.FnExactRowFrom': WHATEVER THE INPUT: true; the input reads as it did. -/
def fnExactRowFromSpec : ChangeSpec := { name := "fnExactRowFrom", fn := fun _ => fun
  | [d1, d2] => { results := [.lit (.bool true)], args := [d1, d2] }
  | _ => none }
def fnExactRowFromRow : OpenClaim := { program := "ythcjolappblieaa", sum := "4539cebf1fd3708681000d81d7480758bd3d89d3f054c3ab44ad5e9802aecb1a", func := "loop.example/g01608/laws.FnExactRowFrom", spec := "fnExactRowFrom", apart := false }
def FnExactRowFromSaid : Prop := fnExactRowFromRow.holds Try.pinned (OpenSpec.ofChange fnExactRowFromSpec)

/-- ITS FALSE NEIGHBOUR: 'it returns false'. Refute it at one input. -/
def fnExactRowFromWrong : ChangeSpec := { name := "fnExactRowFrom", fn := fun _ => fun
  | [d1, d2] => { results := [.lit (.bool false)], args := [d1, d2] }
  | _ => none }
def FnExactRowFromWrongFalsely : Prop := fnExactRowFromRow.holds Try.pinned (OpenSpec.ofChange fnExactRowFromWrong)

/-- 'laws.FnExactRowIn': WHATEVER THE INPUT: true; the input reads as it did. -/
def fnExactRowInSpec : ChangeSpec := { name := "fnExactRowIn", fn := fun _ => fun
  | [d1, d2, d3] => { results := [.lit (.bool true)], args := [d1, d2, d3] }
  | _ => none }
def fnExactRowInRow : OpenClaim := { program := "ythcjolappblieaa", sum := "4539cebf1fd3708681000d81d7480758bd3d89d3f054c3ab44ad5e9802aecb1a", func := "loop.example/g01608/laws.FnExactRowIn", spec := "fnExactRowIn", unfollowed := true, recurses := true, apart := false }
def FnExactRowInSaid : Prop := fnExactRowInRow.holds Try.pinned (OpenSpec.ofChange fnExactRowInSpec)

/-- ITS FALSE NEIGHBOUR: 'it returns false'. Refute it at one input. -/
def fnExactRowInWrong : ChangeSpec := { name := "fnExactRowIn", fn := fun _ => fun
  | [d1, d2, d3] => { results := [.lit (.bool false)], args := [d1, d2, d3] }
  | _ => none }
def FnExactRowInWrongFalsely : Prop := fnExactRowInRow.holds Try.pinned (OpenSpec.ofChange fnExactRowInWrong)

/-- 'laws.FnExactSumOf': WHATEVER THE INPUT: true; the input reads as it did. -/
def fnExactSumOfSpec : ChangeSpec := { name := "fnExactSumOf", fn := fun _ => fun
  | [d1, d2] => { results := [.lit (.bool true)], args := [d1, d2] }
  | _ => none }
def fnExactSumOfRow : OpenClaim := { program := "ythcjolappblieaa", sum := "4539cebf1fd3708681000d81d7480758bd3d89d3f054c3ab44ad5e9802aecb1a", func := "loop.example/g01608/laws.FnExactSumOf", spec := "fnExactSumOf", recurses := true, apart := false }
def FnExactSumOfSaid : Prop := fnExactSumOfRow.holds Try.pinned (OpenSpec.ofChange fnExactSumOfSpec)

/-- ITS FALSE NEIGHBOUR: 'it returns false'. Refute it at one input. -/
def fnExactSumOfWrong : ChangeSpec := { name := "fnExactSumOf", fn := fun _ => fun
  | [d1, d2] => { results := [.lit (.bool false)], args := [d1, d2] }
  | _ => none }
def FnExactSumOfWrongFalsely : Prop := fnExactSumOfRow.holds Try.pinned (OpenSpec.ofChange fnExactSumOfWrong)

/-- 'laws.FnExactWorldOk': WHATEVER THE INPUT: true; the input reads as it did. -/
def fnExactWorldOkSpec : ChangeSpec := { name := "fnExactWorldOk", fn := fun _ => fun
  | [d] => { results := [.lit (.bool true)], args := [d] }
  | _ => none }
def fnExactWorldOkRow : OpenClaim := { program := "ythcjolappblieaa", sum := "4539cebf1fd3708681000d81d7480758bd3d89d3f054c3ab44ad5e9802aecb1a", func := "loop.example/g01608/laws.FnExactWorldOk", spec := "fnExactWorldOk", unfollowed := true, recurses := true, apart := false }
def FnExactWorldOkSaid : Prop := fnExactWorldOkRow.holds Try.pinned (OpenSpec.ofChange fnExactWorldOkSpec)

/-- ITS FALSE NEIGHBOUR: 'it returns false'. Refute it at one input. -/
def fnExactWorldOkWrong : ChangeSpec := { name := "fnExactWorldOk", fn := fun _ => fun
  | [d] => { results := [.lit (.bool false)], args := [d] }
  | _ => none }
def FnExactWorldOkWrongFalsely : Prop := fnExactWorldOkRow.holds Try.pinned (OpenSpec.ofChange fnExactWorldOkWrong)

/-- 'laws.FnExactRecordNow': WHATEVER THE INPUT: true; the input reads as it did. -/
def fnExactRecordNowSpec : ChangeSpec := { name := "fnExactRecordNow", fn := fun _ => fun
  | [d1, d2, d3, d4] => { results := [.lit (.bool true)], args := [d1, d2, d3, d4] }
  | _ => none }
def fnExactRecordNowRow : OpenClaim := { program := "ythcjolappblieaa", sum := "4539cebf1fd3708681000d81d7480758bd3d89d3f054c3ab44ad5e9802aecb1a", func := "loop.example/g01608/laws.FnExactRecordNow", spec := "fnExactRecordNow", unfollowed := true, recurses := true, apart := false }
def FnExactRecordNowSaid : Prop := fnExactRecordNowRow.holds Try.pinned (OpenSpec.ofChange fnExactRecordNowSpec)

/-- ITS FALSE NEIGHBOUR: 'it returns false'. Refute it at one input. -/
def fnExactRecordNowWrong : ChangeSpec := { name := "fnExactRecordNow", fn := fun _ => fun
  | [d1, d2, d3, d4] => { results := [.lit (.bool false)], args := [d1, d2, d3, d4] }
  | _ => none }
def FnExactRecordNowWrongFalsely : Prop := fnExactRecordNowRow.holds Try.pinned (OpenSpec.ofChange fnExactRecordNowWrong)

/-- 'laws.FnExactFlushNow': WHATEVER THE INPUT: true; the input reads as it did. -/
def fnExactFlushNowSpec : ChangeSpec := { name := "fnExactFlushNow", fn := fun _ => fun
  | [d] => { results := [.lit (.bool true)], args := [d] }
  | _ => none }
def fnExactFlushNowRow : OpenClaim := { program := "ythcjolappblieaa", sum := "4539cebf1fd3708681000d81d7480758bd3d89d3f054c3ab44ad5e9802aecb1a", func := "loop.example/g01608/laws.FnExactFlushNow", spec := "fnExactFlushNow", inPlace := ["slices.overlaps[loop.example/g01608/impl.Row]"], unfollowed := true, recurses := true, apart := false }
def FnExactFlushNowSaid : Prop := fnExactFlushNowRow.holds Try.pinned (OpenSpec.ofChange fnExactFlushNowSpec)

/-- ITS FALSE NEIGHBOUR: 'it returns false'. Refute it at one input. -/
def fnExactFlushNowWrong : ChangeSpec := { name := "fnExactFlushNow", fn := fun _ => fun
  | [d] => { results := [.lit (.bool false)], args := [d] }
  | _ => none }
def FnExactFlushNowWrongFalsely : Prop := fnExactFlushNowRow.holds Try.pinned (OpenSpec.ofChange fnExactFlushNowWrong)

/-- 'laws.FnExactReportIn': WHATEVER THE INPUT: true; the input reads as it did. -/
def fnExactReportInSpec : ChangeSpec := { name := "fnExactReportIn", fn := fun _ => fun
  | [d1, d2] => { results := [.lit (.bool true)], args := [d1, d2] }
  | _ => none }
def fnExactReportInRow : OpenClaim := { program := "ythcjolappblieaa", sum := "4539cebf1fd3708681000d81d7480758bd3d89d3f054c3ab44ad5e9802aecb1a", func := "loop.example/g01608/laws.FnExactReportIn", spec := "fnExactReportIn", inPlace := ["slices.overlaps[loop.example/g01608/impl.Row]"], unfollowed := true, recurses := true, apart := false }
def FnExactReportInSaid : Prop := fnExactReportInRow.holds Try.pinned (OpenSpec.ofChange fnExactReportInSpec)

/-- ITS FALSE NEIGHBOUR: 'it returns false'. Refute it at one input. -/
def fnExactReportInWrong : ChangeSpec := { name := "fnExactReportIn", fn := fun _ => fun
  | [d1, d2] => { results := [.lit (.bool false)], args := [d1, d2] }
  | _ => none }
def FnExactReportInWrongFalsely : Prop := fnExactReportInRow.holds Try.pinned (OpenSpec.ofChange fnExactReportInWrong)

/-- 'laws.FnExactSamplesOf': WHATEVER THE INPUT: true; the input reads as it did. -/
def fnExactSamplesOfSpec : ChangeSpec := { name := "fnExactSamplesOf", fn := fun _ => fun
  | [d1, d2] => { results := [.lit (.bool true)], args := [d1, d2] }
  | _ => none }
def fnExactSamplesOfRow : OpenClaim := { program := "ythcjolappblieaa", sum := "4539cebf1fd3708681000d81d7480758bd3d89d3f054c3ab44ad5e9802aecb1a", func := "loop.example/g01608/laws.FnExactSamplesOf", spec := "fnExactSamplesOf", recurses := true, apart := false }
def FnExactSamplesOfSaid : Prop := fnExactSamplesOfRow.holds Try.pinned (OpenSpec.ofChange fnExactSamplesOfSpec)

/-- ITS FALSE NEIGHBOUR: 'it returns false'. Refute it at one input. -/
def fnExactSamplesOfWrong : ChangeSpec := { name := "fnExactSamplesOf", fn := fun _ => fun
  | [d1, d2] => { results := [.lit (.bool false)], args := [d1, d2] }
  | _ => none }
def FnExactSamplesOfWrongFalsely : Prop := fnExactSamplesOfRow.holds Try.pinned (OpenSpec.ofChange fnExactSamplesOfWrong)

/-- 'laws.FnExactTells': WHATEVER THE INPUT: true; the input reads as it did. -/
def fnExactTellsSpec : ChangeSpec := { name := "fnExactTells", fn := fun _ => fun
  | [d] => { results := [.lit (.bool true)], args := [d] }
  | _ => none }
def fnExactTellsRow : OpenClaim := { program := "ythcjolappblieaa", sum := "4539cebf1fd3708681000d81d7480758bd3d89d3f054c3ab44ad5e9802aecb1a", func := "loop.example/g01608/laws.FnExactTells", spec := "fnExactTells", apart := false }
def FnExactTellsSaid : Prop := fnExactTellsRow.holds Try.pinned (OpenSpec.ofChange fnExactTellsSpec)

/-- ITS FALSE NEIGHBOUR: 'it returns false'. Refute it at one input. -/
def fnExactTellsWrong : ChangeSpec := { name := "fnExactTells", fn := fun _ => fun
  | [d] => { results := [.lit (.bool false)], args := [d] }
  | _ => none }
def FnExactTellsWrongFalsely : Prop := fnExactTellsRow.holds Try.pinned (OpenSpec.ofChange fnExactTellsWrong)

/-- 'laws.FnExactReports': WHATEVER THE INPUT: true; the input reads as it did. -/
def fnExactReportsSpec : ChangeSpec := { name := "fnExactReports", fn := fun _ => fun
  | [d] => { results := [.lit (.bool true)], args := [d] }
  | _ => none }
def fnExactReportsRow : OpenClaim := { program := "ythcjolappblieaa", sum := "4539cebf1fd3708681000d81d7480758bd3d89d3f054c3ab44ad5e9802aecb1a", func := "loop.example/g01608/laws.FnExactReports", spec := "fnExactReports", apart := false }
def FnExactReportsSaid : Prop := fnExactReportsRow.holds Try.pinned (OpenSpec.ofChange fnExactReportsSpec)

/-- ITS FALSE NEIGHBOUR: 'it returns false'. Refute it at one input. -/
def fnExactReportsWrong : ChangeSpec := { name := "fnExactReports", fn := fun _ => fun
  | [d] => { results := [.lit (.bool false)], args := [d] }
  | _ => none }
def FnExactReportsWrongFalsely : Prop := fnExactReportsRow.holds Try.pinned (OpenSpec.ofChange fnExactReportsWrong)

/- THE SECOND FORM. 'bulk': how many values and letters a reading holds, each counted each time it is reached (what is shared counts as often as it is met; a slice's spare places count too). A statement '..UptoSaid' is the law's where the arguments, and the package variables that the reading takes, are together of bulk at most 1048576: NARROWER than '..Said'. Prove '..Said' where nothing that the law and all that it calls make is longer than what came in: it says more and counts as full. Else prove '..UptoSaid'. A law counts once. -/
mutual
def uptoBulk {H : Type} : DataW H → Nat
  | .lit (.string bytes) => bytes.length + 1
  | .lit _ => 1
  | .nil => 1
  | .ptr d => uptoBulk d + 1
  | .slice elems spare => uptoBulkAll elems + uptoBulkAll spare + 1
  | .agg parts => uptoBulkAll parts + 1
  | .iface _ d => uptoBulk d + 1
  | .map entries => uptoBulkEntries entries + 1
  | .held _ => 1
def uptoBulkAll {H : Type} : List (DataW H) → Nat
  | [] => 0
  | d :: r => uptoBulk d + uptoBulkAll r
def uptoBulkEntries {H : Type} : List (Lit × DataW H) → Nat
  | [] => 0
  | x :: r => uptoBulkEntry x + uptoBulkEntries r
def uptoBulkEntry {H : Type} : Lit × DataW H → Nat
  | (.string bytes, d) => bytes.length + uptoBulk d + 1
  | (_, d) => uptoBulk d + 1
 end
def uptoSmall : (H : Type) → List (DataW H) → Bool := fun _ ds => decide (uptoBulkAll ds ≤ 1048576)
def OpenSpec.upto (s : _root_.Go.ChangeSpec) : _root_.Go.OpenSpec := { _root_.Go.OpenSpec.ofChange s with cond := some uptoSmall }

/-- 'laws.FnExactSameWorld', WHERE WHAT IT READS IS OF BULK AT MOST 1048576: true; the input reads as it did. -/
def fnExactSameWorldUptoRow : OpenClaim := { program := "ythcjolappblieaa", sum := "4539cebf1fd3708681000d81d7480758bd3d89d3f054c3ab44ad5e9802aecb1a", func := "loop.example/g01608/laws.FnExactSameWorld", spec := "fnExactSameWorld", unfollowed := true, recurses := true, apart := false, narrowed := true }
def FnExactSameWorldUptoSaid : Prop := fnExactSameWorldUptoRow.holds Try.pinned (OpenSpec.upto fnExactSameWorldSpec)

/-- 'laws.FnExactModelOk', WHERE WHAT IT READS IS OF BULK AT MOST 1048576: true; the input reads as it did. -/
def fnExactModelOkUptoRow : OpenClaim := { program := "ythcjolappblieaa", sum := "4539cebf1fd3708681000d81d7480758bd3d89d3f054c3ab44ad5e9802aecb1a", func := "loop.example/g01608/laws.FnExactModelOk", spec := "fnExactModelOk", unfollowed := true, recurses := true, apart := false, narrowed := true }
def FnExactModelOkUptoSaid : Prop := fnExactModelOkUptoRow.holds Try.pinned (OpenSpec.upto fnExactModelOkSpec)

/-- 'laws.FnExactRowFrom', WHERE WHAT IT READS IS OF BULK AT MOST 1048576: true; the input reads as it did. -/
def fnExactRowFromUptoRow : OpenClaim := { program := "ythcjolappblieaa", sum := "4539cebf1fd3708681000d81d7480758bd3d89d3f054c3ab44ad5e9802aecb1a", func := "loop.example/g01608/laws.FnExactRowFrom", spec := "fnExactRowFrom", apart := false, narrowed := true }
def FnExactRowFromUptoSaid : Prop := fnExactRowFromUptoRow.holds Try.pinned (OpenSpec.upto fnExactRowFromSpec)

/-- 'laws.FnExactRowIn', WHERE WHAT IT READS IS OF BULK AT MOST 1048576: true; the input reads as it did. -/
def fnExactRowInUptoRow : OpenClaim := { program := "ythcjolappblieaa", sum := "4539cebf1fd3708681000d81d7480758bd3d89d3f054c3ab44ad5e9802aecb1a", func := "loop.example/g01608/laws.FnExactRowIn", spec := "fnExactRowIn", unfollowed := true, recurses := true, apart := false, narrowed := true }
def FnExactRowInUptoSaid : Prop := fnExactRowInUptoRow.holds Try.pinned (OpenSpec.upto fnExactRowInSpec)

/-- 'laws.FnExactSumOf', WHERE WHAT IT READS IS OF BULK AT MOST 1048576: true; the input reads as it did. -/
def fnExactSumOfUptoRow : OpenClaim := { program := "ythcjolappblieaa", sum := "4539cebf1fd3708681000d81d7480758bd3d89d3f054c3ab44ad5e9802aecb1a", func := "loop.example/g01608/laws.FnExactSumOf", spec := "fnExactSumOf", recurses := true, apart := false, narrowed := true }
def FnExactSumOfUptoSaid : Prop := fnExactSumOfUptoRow.holds Try.pinned (OpenSpec.upto fnExactSumOfSpec)

/-- 'laws.FnExactWorldOk', WHERE WHAT IT READS IS OF BULK AT MOST 1048576: true; the input reads as it did. -/
def fnExactWorldOkUptoRow : OpenClaim := { program := "ythcjolappblieaa", sum := "4539cebf1fd3708681000d81d7480758bd3d89d3f054c3ab44ad5e9802aecb1a", func := "loop.example/g01608/laws.FnExactWorldOk", spec := "fnExactWorldOk", unfollowed := true, recurses := true, apart := false, narrowed := true }
def FnExactWorldOkUptoSaid : Prop := fnExactWorldOkUptoRow.holds Try.pinned (OpenSpec.upto fnExactWorldOkSpec)

/-- 'laws.FnExactRecordNow', WHERE WHAT IT READS IS OF BULK AT MOST 1048576: true; the input reads as it did. -/
def fnExactRecordNowUptoRow : OpenClaim := { program := "ythcjolappblieaa", sum := "4539cebf1fd3708681000d81d7480758bd3d89d3f054c3ab44ad5e9802aecb1a", func := "loop.example/g01608/laws.FnExactRecordNow", spec := "fnExactRecordNow", unfollowed := true, recurses := true, apart := false, narrowed := true }
def FnExactRecordNowUptoSaid : Prop := fnExactRecordNowUptoRow.holds Try.pinned (OpenSpec.upto fnExactRecordNowSpec)

/-- 'laws.FnExactFlushNow', WHERE WHAT IT READS IS OF BULK AT MOST 1048576: true; the input reads as it did. -/
def fnExactFlushNowUptoRow : OpenClaim := { program := "ythcjolappblieaa", sum := "4539cebf1fd3708681000d81d7480758bd3d89d3f054c3ab44ad5e9802aecb1a", func := "loop.example/g01608/laws.FnExactFlushNow", spec := "fnExactFlushNow", inPlace := ["slices.overlaps[loop.example/g01608/impl.Row]"], unfollowed := true, recurses := true, apart := false, narrowed := true }
def FnExactFlushNowUptoSaid : Prop := fnExactFlushNowUptoRow.holds Try.pinned (OpenSpec.upto fnExactFlushNowSpec)

/-- 'laws.FnExactReportIn', WHERE WHAT IT READS IS OF BULK AT MOST 1048576: true; the input reads as it did. -/
def fnExactReportInUptoRow : OpenClaim := { program := "ythcjolappblieaa", sum := "4539cebf1fd3708681000d81d7480758bd3d89d3f054c3ab44ad5e9802aecb1a", func := "loop.example/g01608/laws.FnExactReportIn", spec := "fnExactReportIn", inPlace := ["slices.overlaps[loop.example/g01608/impl.Row]"], unfollowed := true, recurses := true, apart := false, narrowed := true }
def FnExactReportInUptoSaid : Prop := fnExactReportInUptoRow.holds Try.pinned (OpenSpec.upto fnExactReportInSpec)

/-- 'laws.FnExactSamplesOf', WHERE WHAT IT READS IS OF BULK AT MOST 1048576: true; the input reads as it did. -/
def fnExactSamplesOfUptoRow : OpenClaim := { program := "ythcjolappblieaa", sum := "4539cebf1fd3708681000d81d7480758bd3d89d3f054c3ab44ad5e9802aecb1a", func := "loop.example/g01608/laws.FnExactSamplesOf", spec := "fnExactSamplesOf", recurses := true, apart := false, narrowed := true }
def FnExactSamplesOfUptoSaid : Prop := fnExactSamplesOfUptoRow.holds Try.pinned (OpenSpec.upto fnExactSamplesOfSpec)

/-- 'laws.FnExactTells', WHERE WHAT IT READS IS OF BULK AT MOST 1048576: true; the input reads as it did. -/
def fnExactTellsUptoRow : OpenClaim := { program := "ythcjolappblieaa", sum := "4539cebf1fd3708681000d81d7480758bd3d89d3f054c3ab44ad5e9802aecb1a", func := "loop.example/g01608/laws.FnExactTells", spec := "fnExactTells", apart := false, narrowed := true }
def FnExactTellsUptoSaid : Prop := fnExactTellsUptoRow.holds Try.pinned (OpenSpec.upto fnExactTellsSpec)

/-- 'laws.FnExactReports', WHERE WHAT IT READS IS OF BULK AT MOST 1048576: true; the input reads as it did. -/
def fnExactReportsUptoRow : OpenClaim := { program := "ythcjolappblieaa", sum := "4539cebf1fd3708681000d81d7480758bd3d89d3f054c3ab44ad5e9802aecb1a", func := "loop.example/g01608/laws.FnExactReports", spec := "fnExactReports", apart := false, narrowed := true }
def FnExactReportsUptoSaid : Prop := fnExactReportsUptoRow.holds Try.pinned (OpenSpec.upto fnExactReportsSpec)

end Rows
end Go.Proofs.Ythcjolappblieaa
