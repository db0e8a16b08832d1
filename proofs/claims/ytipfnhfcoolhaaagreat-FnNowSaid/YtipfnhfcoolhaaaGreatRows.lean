/-
  No cell of these rows narrows 'for every input' (looked for: loops, veiled, ifaces, maps, wideKeys, modest, calm, conditions, laid).
  DERIVED. THE GIVEN ROWS OF THIS SEAT. 6 by the template 'for every input the law returns true; each argument reads behind the call as it read before'; 0 by the template 'total and deterministic' (their statements: YtipfnhfcoolhaaaGreatTotals.lean).
  GIVEN WITH THE SEED: the statements are not yours to turn. If you find one false, say at which input.
  Laid BY PROGRAM, IN A SANDBOX (cutbox-rows.mjs): the forced cells as the released guide's own fill.sh prints them over the translation 6fcc5814db10aced… (all of the seat's roots in one cut). By AI agents, Wed Nov 11 2026. No macro, syntax, notation, axiom, sorry.
-/
import Derived.Test.YtipfnhfcoolhaaaGreatChecked
import GoSem.Claim
import GoSem.ClaimJoined
import GoSem.ClaimMapViews
import Derived.JoinedTies
import Derived.KernelRfl
namespace Go.Proofs.YtipfnhfcoolhaaaGreat
/- THE CELL 'sum', in the pinned program and in every row, IS THE sha256 OF THE DUMP (.gsa) THAT YtipfnhfcoolhaaaGreatProg.lean LOADS. Nothing in Lean hashes anything: it is a label: what it is worth is what the hold of that sum in a sandbox is worth. -/
noncomputable def Tryz.pinned : Pinned := { name := "ytipfnhfcoolhaaagreat", sum := "6fcc5814db10aceda3ab27bfe10e0b04debd1a1c8b90a3ad076031ff07a6da1f", checked := Tryz.checked }
namespace Rows
def none {H : Type} : Left H := { results := [], args := [] }

/-- 'laws.FnExactModelOf': WHATEVER THE INPUT: true; the input reads as it did. -/
def fnExactModelOfSpec : ChangeSpec := { name := "fnExactModelOf", fn := fun _ => fun
  | [d] => { results := [.lit (.bool true)], args := [d] }
  | _ => none }
def fnExactModelOfRow : OpenClaim := { program := "ytipfnhfcoolhaaagreat", sum := "6fcc5814db10aceda3ab27bfe10e0b04debd1a1c8b90a3ad076031ff07a6da1f", func := "loop.example/g01608/laws.FnExactModelOf", spec := "fnExactModelOf", inPlace := ["slices.overlaps[loop.example/g01608/impl.Row]", "slices.overlaps[loop.example/g01608/impl.KRow]"], unfollowed := true, recurses := true, apart := false }
def FnExactModelOfSaid : Prop := fnExactModelOfRow.holds Tryz.pinned (OpenSpec.ofChange fnExactModelOfSpec)

/-- ITS FALSE NEIGHBOUR: 'it returns false'. Refute it at one input. -/
def fnExactModelOfWrong : ChangeSpec := { name := "fnExactModelOf", fn := fun _ => fun
  | [d] => { results := [.lit (.bool false)], args := [d] }
  | _ => none }
def FnExactModelOfWrongFalsely : Prop := fnExactModelOfRow.holds Tryz.pinned (OpenSpec.ofChange fnExactModelOfWrong)

/-- 'laws.FnExactPlay': WHATEVER THE INPUT: true; the input reads as it did. -/
def fnExactPlaySpec : ChangeSpec := { name := "fnExactPlay", fn := fun _ => fun
  | [d] => { results := [.lit (.bool true)], args := [d] }
  | _ => none }
def fnExactPlayRow : OpenClaim := { program := "ytipfnhfcoolhaaagreat", sum := "6fcc5814db10aceda3ab27bfe10e0b04debd1a1c8b90a3ad076031ff07a6da1f", func := "loop.example/g01608/laws.FnExactPlay", spec := "fnExactPlay", inPlace := ["slices.overlaps[loop.example/g01608/impl.Row]"], unfollowed := true, recurses := true, apart := false }
def FnExactPlaySaid : Prop := fnExactPlayRow.holds Tryz.pinned (OpenSpec.ofChange fnExactPlaySpec)

/-- ITS FALSE NEIGHBOUR: 'it returns false'. Refute it at one input. -/
def fnExactPlayWrong : ChangeSpec := { name := "fnExactPlay", fn := fun _ => fun
  | [d] => { results := [.lit (.bool false)], args := [d] }
  | _ => none }
def FnExactPlayWrongFalsely : Prop := fnExactPlayRow.holds Tryz.pinned (OpenSpec.ofChange fnExactPlayWrong)

/-- 'laws.FnExactStep': WHATEVER THE INPUT: true; the input reads as it did. -/
def fnExactStepSpec : ChangeSpec := { name := "fnExactStep", fn := fun _ => fun
  | [d1, d2] => { results := [.lit (.bool true)], args := [d1, d2] }
  | _ => none }
def fnExactStepRow : OpenClaim := { program := "ytipfnhfcoolhaaagreat", sum := "6fcc5814db10aceda3ab27bfe10e0b04debd1a1c8b90a3ad076031ff07a6da1f", func := "loop.example/g01608/laws.FnExactStep", spec := "fnExactStep", inPlace := ["slices.overlaps[loop.example/g01608/impl.Row]"], unfollowed := true, recurses := true, apart := false }
def FnExactStepSaid : Prop := fnExactStepRow.holds Tryz.pinned (OpenSpec.ofChange fnExactStepSpec)

/-- ITS FALSE NEIGHBOUR: 'it returns false'. Refute it at one input. -/
def fnExactStepWrong : ChangeSpec := { name := "fnExactStep", fn := fun _ => fun
  | [d1, d2] => { results := [.lit (.bool false)], args := [d1, d2] }
  | _ => none }
def FnExactStepWrongFalsely : Prop := fnExactStepRow.holds Tryz.pinned (OpenSpec.ofChange fnExactStepWrong)

/-- 'laws.FnExactRounds': WHATEVER THE INPUT: true; the input reads as it did. -/
def fnExactRoundsSpec : ChangeSpec := { name := "fnExactRounds", fn := fun _ => fun
  | [d1, d2] => { results := [.lit (.bool true)], args := [d1, d2] }
  | _ => none }
def fnExactRoundsRow : OpenClaim := { program := "ytipfnhfcoolhaaagreat", sum := "6fcc5814db10aceda3ab27bfe10e0b04debd1a1c8b90a3ad076031ff07a6da1f", func := "loop.example/g01608/laws.FnExactRounds", spec := "fnExactRounds", inPlace := ["slices.overlaps[loop.example/g01608/impl.Row]"], unfollowed := true, recurses := true, apart := false }
def FnExactRoundsSaid : Prop := fnExactRoundsRow.holds Tryz.pinned (OpenSpec.ofChange fnExactRoundsSpec)

/-- ITS FALSE NEIGHBOUR: 'it returns false'. Refute it at one input. -/
def fnExactRoundsWrong : ChangeSpec := { name := "fnExactRounds", fn := fun _ => fun
  | [d1, d2] => { results := [.lit (.bool false)], args := [d1, d2] }
  | _ => none }
def FnExactRoundsWrongFalsely : Prop := fnExactRoundsRow.holds Tryz.pinned (OpenSpec.ofChange fnExactRoundsWrong)

/-- 'laws.FnExactFinish': WHATEVER THE INPUT: true; the input reads as it did. -/
def fnExactFinishSpec : ChangeSpec := { name := "fnExactFinish", fn := fun _ => fun
  | [d] => { results := [.lit (.bool true)], args := [d] }
  | _ => none }
def fnExactFinishRow : OpenClaim := { program := "ytipfnhfcoolhaaagreat", sum := "6fcc5814db10aceda3ab27bfe10e0b04debd1a1c8b90a3ad076031ff07a6da1f", func := "loop.example/g01608/laws.FnExactFinish", spec := "fnExactFinish", inPlace := ["slices.overlaps[loop.example/g01608/impl.Row]"], unfollowed := true, recurses := true, apart := false }
def FnExactFinishSaid : Prop := fnExactFinishRow.holds Tryz.pinned (OpenSpec.ofChange fnExactFinishSpec)

/-- ITS FALSE NEIGHBOUR: 'it returns false'. Refute it at one input. -/
def fnExactFinishWrong : ChangeSpec := { name := "fnExactFinish", fn := fun _ => fun
  | [d] => { results := [.lit (.bool false)], args := [d] }
  | _ => none }
def FnExactFinishWrongFalsely : Prop := fnExactFinishRow.holds Tryz.pinned (OpenSpec.ofChange fnExactFinishWrong)

/-- 'laws.FnNow': WHATEVER THE INPUT: true; the input reads as it did. -/
def fnNowSpec : ChangeSpec := { name := "fnNow", fn := fun _ => fun
  | [d] => { results := [.lit (.bool true)], args := [d] }
  | _ => none }
def fnNowRow : OpenClaim := { program := "ytipfnhfcoolhaaagreat", sum := "6fcc5814db10aceda3ab27bfe10e0b04debd1a1c8b90a3ad076031ff07a6da1f", func := "loop.example/g01608/laws.FnNow", spec := "fnNow", inPlace := ["slices.overlaps[loop.example/g01608/impl.Row]"], unfollowed := true, recurses := true, apart := false }
def FnNowSaid : Prop := fnNowRow.holds Tryz.pinned (OpenSpec.ofChange fnNowSpec)

/-- ITS FALSE NEIGHBOUR: 'it returns false'. Refute it at one input. -/
def fnNowWrong : ChangeSpec := { name := "fnNow", fn := fun _ => fun
  | [d] => { results := [.lit (.bool false)], args := [d] }
  | _ => none }
def FnNowWrongFalsely : Prop := fnNowRow.holds Tryz.pinned (OpenSpec.ofChange fnNowWrong)

/- THE SECOND FORM. 'bulk': how many values and letters a reading holds, each counted each time it is reached (what is shared counts as often as it is met; a slice's spare places count too). A statement '..UptoSaid' is the law's where the arguments, and the package variables that the reading takes, are together of bulk at most 1048576: NARROWER than '..Said'. Prove '..Said' where nothing that the law and all that it calls make is longer than what came in: it says more and counts as full. Else prove '..UptoSaid'. A law counts once. -/
mutual
def uptoBulk {H : Type} : DataW H → Nat
  | .lit (.string bytes) => bytes.length + 1
  | .lit _ => 1
  | .nil => 1
  | .ptr d => uptoBulk d + 1
  | .slice elems spare => uptoBulkAll elems + uptoBulkAll spare + 1
  | .agg parts => uptoBulkAll parts + 1
  | .iface _ d => uptoBulk d + 1
  | .map entries => uptoBulkEntries entries + 1
  | .held _ => 1
def uptoBulkAll {H : Type} : List (DataW H) → Nat
  | [] => 0
  | d :: r => uptoBulk d + uptoBulkAll r
def uptoBulkEntries {H : Type} : List (Lit × DataW H) → Nat
  | [] => 0
  | x :: r => uptoBulkEntry x + uptoBulkEntries r
def uptoBulkEntry {H : Type} : Lit × DataW H → Nat
  | (.string bytes, d) => bytes.length + uptoBulk d + 1
  | (_, d) => uptoBulk d + 1
 end
def uptoSmall : (H : Type) → List (DataW H) → Bool := fun _ ds => decide (uptoBulkAll ds ≤ 1048576)
def OpenSpec.upto (s : _root_.Go.ChangeSpec) : _root_.Go.OpenSpec := { _root_.Go.OpenSpec.ofChange s with cond := some uptoSmall }

/-- 'laws.FnExactModelOf', WHERE WHAT IT READS IS OF BULK AT MOST 1048576: true; the input reads as it did. -/
def fnExactModelOfUptoRow : OpenClaim := { program := "ytipfnhfcoolhaaagreat", sum := "6fcc5814db10aceda3ab27bfe10e0b04debd1a1c8b90a3ad076031ff07a6da1f", func := "loop.example/g01608/laws.FnExactModelOf", spec := "fnExactModelOf", inPlace := ["slices.overlaps[loop.example/g01608/impl.Row]", "slices.overlaps[loop.example/g01608/impl.KRow]"], unfollowed := true, recurses := true, apart := false, narrowed := true }
def FnExactModelOfUptoSaid : Prop := fnExactModelOfUptoRow.holds Tryz.pinned (OpenSpec.upto fnExactModelOfSpec)

/-- 'laws.FnExactPlay', WHERE WHAT IT READS IS OF BULK AT MOST 1048576: true; the input reads as it did. -/
def fnExactPlayUptoRow : OpenClaim := { program := "ytipfnhfcoolhaaagreat", sum := "6fcc5814db10aceda3ab27bfe10e0b04debd1a1c8b90a3ad076031ff07a6da1f", func := "loop.example/g01608/laws.FnExactPlay", spec := "fnExactPlay", inPlace := ["slices.overlaps[loop.example/g01608/impl.Row]"], unfollowed := true, recurses := true, apart := false, narrowed := true }
def FnExactPlayUptoSaid : Prop := fnExactPlayUptoRow.holds Tryz.pinned (OpenSpec.upto fnExactPlaySpec)

/-- 'laws.FnExactStep', WHERE WHAT IT READS IS OF BULK AT MOST 1048576: true; the input reads as it did. -/
def fnExactStepUptoRow : OpenClaim := { program := "ytipfnhfcoolhaaagreat", sum := "6fcc5814db10aceda3ab27bfe10e0b04debd1a1c8b90a3ad076031ff07a6da1f", func := "loop.example/g01608/laws.FnExactStep", spec := "fnExactStep", inPlace := ["slices.overlaps[loop.example/g01608/impl.Row]"], unfollowed := true, recurses := true, apart := false, narrowed := true }
def FnExactStepUptoSaid : Prop := fnExactStepUptoRow.holds Tryz.pinned (OpenSpec.upto fnExactStepSpec)

/-- 'laws.FnExactRounds', WHERE WHAT IT READS IS OF BULK AT MOST 1048576: true; the input reads as it did. -/
def fnExactRoundsUptoRow : OpenClaim := { program := "ytipfnhfcoolhaaagreat", sum := "6fcc5814db10aceda3ab27bfe10e0b04debd1a1c8b90a3ad076031ff07a6da1f", func := "loop.example/g01608/laws.FnExactRounds", spec := "fnExactRounds", inPlace := ["slices.overlaps[loop.example/g01608/impl.Row]"], unfollowed := true, recurses := true, apart := false, narrowed := true }
def FnExactRoundsUptoSaid : Prop := fnExactRoundsUptoRow.holds Tryz.pinned (OpenSpec.upto fnExactRoundsSpec)

/-- 'laws.FnExactFinish', WHERE WHAT IT READS IS OF BULK AT MOST 1048576: true; the input reads as it did. -/
def fnExactFinishUptoRow : OpenClaim := { program := "ytipfnhfcoolhaaagreat", sum := "6fcc5814db10aceda3ab27bfe10e0b04debd1a1c8b90a3ad076031ff07a6da1f", func := "loop.example/g01608/laws.FnExactFinish", spec := "fnExactFinish", inPlace := ["slices.overlaps[loop.example/g01608/impl.Row]"], unfollowed := true, recurses := true, apart := false, narrowed := true }
def FnExactFinishUptoSaid : Prop := fnExactFinishUptoRow.holds Tryz.pinned (OpenSpec.upto fnExactFinishSpec)

/-- 'laws.FnNow', WHERE WHAT IT READS IS OF BULK AT MOST 1048576: true; the input reads as it did. -/
def fnNowUptoRow : OpenClaim := { program := "ytipfnhfcoolhaaagreat", sum := "6fcc5814db10aceda3ab27bfe10e0b04debd1a1c8b90a3ad076031ff07a6da1f", func := "loop.example/g01608/laws.FnNow", spec := "fnNow", inPlace := ["slices.overlaps[loop.example/g01608/impl.Row]"], unfollowed := true, recurses := true, apart := false, narrowed := true }
def FnNowUptoSaid : Prop := fnNowUptoRow.holds Tryz.pinned (OpenSpec.upto fnNowSpec)

end Rows
end Go.Proofs.YtipfnhfcoolhaaaGreat
