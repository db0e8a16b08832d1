/- Worlds: are they right; in plain Lean. -/
import Derived.Test.YthcjolappblieaaMn
import Derived.Test.YthcjolappblieaaMw
namespace Go.Proofs.Ythcjolappblieaa.Aw
open Go
set_option linter.unusedVariables false
def op0 : OpD := ⟨0, ⟨#[]⟩, 0, 0⟩
def job0 : JobD := ⟨false, op0, 0, 0, 0, 0, 0, 0, 0, 0, 0, 0, 0, [], []⟩
def jobAt (t : Nat) (j : JobD) : Bool := if j.busy = true then jobOk j && (decide (j.op.kind = 3) == decide ((t : Int) = 3)) else decide (j = job0)
def jobsAt (l : List JobD) (t : Nat) : Bool := match l[t]? with | some j => jobAt t j | none => true
def worldOk (w : WorldD) : Bool := cellsOk w.cells && todoOk w.todo && decide (0 ≤ w.serial ∧ w.serial ≤ 1000000) && decide (0 ≤ w.now ∧ w.now ≤ 1000000000) && decide ((w.jobs.length : Int) = 4) && (List.range w.jobs.length).all (jobsAt w.jobs)
theorem worldOk_iff {w : WorldD} : worldOk w = true ↔ cellsOk w.cells = true ∧ todoOk w.todo = true ∧ (0 ≤ w.serial ∧ w.serial ≤ 1000000) ∧ (0 ≤ w.now ∧ w.now ≤ 1000000000) ∧ w.jobs.length = 4 ∧ ∀ (t : Nat) (h : t < w.jobs.length), jobAt t w.jobs[t] = true := by
  unfold worldOk
  simp only [Bool.and_eq_true, decide_eq_true_eq, List.all_eq_true, List.mem_range]
  constructor
  · rintro ⟨⟨⟨⟨⟨h1, h2⟩, h3⟩, h4⟩, h5⟩, h6⟩
    refine ⟨h1, h2, h3, h4, by omega, fun t ht => ?_⟩
    have := h6 t ht
    simpa [jobsAt, List.getElem?_eq_getElem ht] using this
  · rintro ⟨h1, h2, h3, h4, h5, h6⟩
    refine ⟨⟨⟨⟨⟨h1, h2⟩, h3⟩, h4⟩, by omega⟩, fun t ht => ?_⟩
    simpa [jobsAt, List.getElem?_eq_getElem ht] using h6 t ht
theorem worldOk_bad {w : WorldD} {t : Nat} (ht : t < w.jobs.length) (h : jobAt t w.jobs[t] = false) : worldOk w = false := by
  cases hw : worldOk w with
  | false => rfl
  | true => have := (worldOk_iff.1 hw).2.2.2.2.2 t ht; rw [h] at this; cases this
theorem worldOk_pre {w : WorldD} (h : ¬ (cellsOk w.cells = true ∧ todoOk w.todo = true ∧ (0 ≤ w.serial ∧ w.serial ≤ 1000000) ∧ (0 ≤ w.now ∧ w.now ≤ 1000000000) ∧ w.jobs.length = 4)) : worldOk w = false := by
  cases hw : worldOk w with
  | false => rfl
  | true => have k := worldOk_iff.1 hw; exact absurd ⟨k.1, k.2.1, k.2.2.1, k.2.2.2.1, k.2.2.2.2.1⟩ h
end Go.Proofs.Ythcjolappblieaa.Aw
