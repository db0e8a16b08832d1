/- Places of cells; what is asked of a record that is under way. -/
import Derived.Test.YtipfnhfcoolhaaaGreatMs
namespace Go.Proofs.YtipfnhfcoolhaaaGreat.Aw
open Go Go.RowKit
set_option linter.unusedVariables false
theorem untag_I (n : Int) : 0 ≤ (untag n).2 ∧ (untag n).2 ≤ 3 := by unfold untag; split <;> simp <;> omega
theorem slotBase_of {b s : Int} (hb : 0 ≤ b ∧ b ≤ 1) (hs : 0 ≤ s ∧ s ≤ 3) : slotBase b s = 7 + b * 32 + s * 8 := by rw [slotBase, if_pos ⟨hb, hs⟩]
theorem set_getD_ne {a : List Int} {i j : Nat} {n : Int} (h : i ≠ j) : (a.set i n).getD j 0 = a.getD j 0 := by
  rw [List.getD_eq_getElem?_getD, List.getElem?_set_ne h, ← List.getD_eq_getElem?_getD]
theorem set_getD_eq {a : List Int} {i : Nat} {n : Int} (h : i < a.length) : (a.set i n).getD i 0 = n := by
  rw [List.getD_eq_getElem?_getD, List.getElem?_set_self h]; rfl
theorem packGauge_W (s v : Int) : wordP (packGauge s v) := by unfold packGauge wordP; split <;> omega
theorem packGauge_I (s v : Int) : inI64 (packGauge s v) := by have := packGauge_W s v; unfold wordP at this; simp only [inI64]; omega
/-- What is asked of a record that is under way. -/
structure DataP (w : WorldD) (j : JobD) : Prop where
  ok : cellsOk w.cells = true
  e : 0 ≤ j.e ∧ j.e ≤ 281474976710655
  slot : 0 ≤ j.slot ∧ j.slot ≤ 3
  val : 0 ≤ j.op.val ∧ j.op.val ≤ 65535
theorem DataP.base {w : WorldD} {j : JobD} (h : DataP w j) : slotBase (j.e % 2) j.slot = 7 + j.e % 2 * 32 + j.slot * 8 ∧ baseD j = 7 + (j.e % 2).toNat * 32 + j.slot.toNat * 8 ∧ 0 ≤ j.e % 2 ∧ j.e % 2 ≤ 1 := by
  have h1 := h.e
  have h2 := h.slot
  have h3 := slotBase_of (b := j.e % 2) (s := j.slot) (by omega) h2
  refine ⟨h3, ?_, by omega, by omega⟩
  unfold baseD; rw [h3]; omega
end Go.Proofs.YtipfnhfcoolhaaaGreat.Aw
