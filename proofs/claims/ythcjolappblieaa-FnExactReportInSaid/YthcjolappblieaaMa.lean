/- What the program's small functions compute, in plain Lean. -/
import Derived.Test.YthcjolappblieaaDa
import Derived.Test.YthcjolappblieaaAy1
namespace Go.Proofs.Ythcjolappblieaa.Aw
open Go
set_option linter.unusedVariables false
/-- May a byte stand in a key? -/
def keyByte (b : Int) : Prop := (97 ≤ b ∧ b ≤ 122) ∨ (65 ≤ b ∧ b ≤ 90) ∨ (48 ≤ b ∧ b ≤ 57) ∨ b = 95
instance (b : Int) : Decidable (keyByte b) := by unfold keyByte; infer_instance
def keyOk (s : ByteArray) : Bool := decide (1 ≤ s.size ∧ s.size ≤ 4) && (List.range s.size).all fun i => decide (keyByte (bt s i))
def kindW (k : Int) : ByteArray := if k = 1 then ⟨#[99]⟩ else if k = 2 then ⟨#[103]⟩ else if k = 3 then ⟨#[109, 115]⟩ else ⟨#[]⟩
theorem kindW_empty (k : Int) : kindW k = ⟨#[]⟩ ↔ ¬ (1 ≤ k ∧ k ≤ 3) := by
  unfold kindW
  split
  · simp; omega
  · split
    · simp; omega
    · split
      · simp; omega
      · simp; omega
def opOk (o : OpD) : Bool :=
  if o.kind = 1 then keyOk o.key && decide (1 ≤ o.what ∧ o.what ≤ 3) && decide (o.val = 0)
  else if o.kind = 2 then keyOk o.key && decide (o.what = 0) && decide (0 ≤ o.val ∧ o.val ≤ 65535)
  else if o.kind = 3 then decide (o = ⟨3, ⟨#[]⟩, 0, 0⟩) else false
end Go.Proofs.Ythcjolappblieaa.Aw
