/- Worlds, in plain Lean: is nobody at work; is a buffer being drained. -/
import Derived.Test.YthcjolappblieaaMb
namespace Go.Proofs.Ythcjolappblieaa.Aw
open Go
set_option linter.unusedVariables false
theorem firstIdx_anyS {α : Type} (p : α → Bool) (xs : List α) : decide (0 ≤ firstIdx p xs) = xs.any p := by
  rcases firstIdx_cases p xs with ⟨e1, e2⟩ | ⟨i, hi, e1, e2, e3, -⟩
  · rw [e1, Bool.eq_iff_iff]
    simp
    simpa using e2
  · rw [e1, decide_eq_true (by omega)]
    symm
    rw [List.any_eq_true]
    exact ⟨xs[i], List.getElem_mem hi, e2⟩
def idle (w : WorldD) : Bool := !(w.jobs.any fun j => j.busy) && !(w.todo.any fun q => decide (0 < (q.ops.length : Int)))
def drainJ (b : Int) (j : JobD) : Bool := j.busy && decide (j.op.kind = 3 ∧ (13 ≤ j.pc ∧ j.pc ≤ 15) ∧ j.e.tmod 2 = b)
def draining (w : WorldD) (b : Int) : Bool := w.jobs.any (drainJ b)
section
variable {α : Type}
theorem any_hit {p : α → Bool} {xs : List α} {i : Nat} (hi : i < xs.length) (hp : p xs[i] = true) : xs.any p = true := by
  rw [List.any_eq_true]; exact ⟨xs[i], List.getElem_mem hi, hp⟩
theorem any_none {p : α → Bool} {xs : List α} {i : Nat} (h : NoneTo p xs i) (hi : xs.length ≤ i) : xs.any p = false := by
  rw [List.any_eq_false]
  intro x hx
  obtain ⟨j, hj, rfl⟩ := List.mem_iff_getElem.1 hx
  simp [h j hj (by omega)]
end
end Go.Proofs.Ythcjolappblieaa.Aw
