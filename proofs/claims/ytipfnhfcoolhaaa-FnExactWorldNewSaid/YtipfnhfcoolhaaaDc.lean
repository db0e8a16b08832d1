/- What the laws are given lies in memory as the records of Da. Printed by gen.py. -/
import Derived.Test.YtipfnhfcoolhaaaBC
import Derived.Test.YtipfnhfcoolhaaaAty
namespace Go.Proofs.Ytipfnhfcoolhaaa.Aw
open Go Go.RowKit
set_option linter.unusedVariables false
set_option linter.unusedSimpArgs false
set_option maxRecDepth 100000
theorem opens_Op : Opens Try.prog OpD 42 := by
  intro D enc W spare held fuel cs r h
  have hl := trod_len h fldt_42_0
  rw [cellsOf_tyi tyi_42] at hl
  obtain ⟨g0, q0, t0⟩ := trod_field h fldt_42_0
  rw [cellsOf_tyi tyi_3] at t0
  obtain ⟨x0, hx0⟩ := (opens_int (of_intKd intKd_3)) enc W spare held _ _ _ t0
  obtain ⟨g1, q1, t1⟩ := trod_field h fldt_42_1
  rw [cellsOf_tyi tyi_9] at t1
  obtain ⟨x1, hx1⟩ := (opens_str (of_isStr isStr_9)) enc W spare held _ _ _ t1
  obtain ⟨g2, q2, t2⟩ := trod_field h fldt_42_2
  rw [cellsOf_tyi tyi_3] at t2
  obtain ⟨x2, hx2⟩ := (opens_int (of_intKd intKd_3)) enc W spare held _ _ _ t2
  obtain ⟨g3, q3, t3⟩ := trod_field h fldt_42_3
  rw [cellsOf_tyi tyi_3] at t3
  obtain ⟨x3, hx3⟩ := (opens_int (of_intKd intKd_3)) enc W spare held _ _ _ t3
  refine ⟨⟨x0, x1, x2, x3⟩, fun H => ?_⟩
  obtain ⟨e0, b0⟩ := hx0 H
  obtain ⟨e1, b1⟩ := hx1 H
  obtain ⟨e2, b2⟩ := hx2 H
  obtain ⟨e3, b3⟩ := hx3 H
  have all : cs.map AV.v = ((cs.drop 0).take 1).map AV.v ++ ((cs.drop 1).take 1).map AV.v ++ ((cs.drop 2).take 1).map AV.v ++ ((cs.drop 3).take 1).map AV.v := by
    rw [← List.map_append, ← List.map_append, ← List.map_append]
    congr 1
    simp only [List.drop_zero, ← List.take_add, Nat.reduceAdd]
    rw [List.take_of_length_le (by omega)]
  rw [e0, e1, e2, e3] at all
  exact ⟨all, b0, b1, b2, b3⟩
theorem opens_Row : Opens Try.prog RowD 159 := by
  intro D enc W spare held fuel cs r h
  have hl := trod_len h fldt_159_0
  rw [cellsOf_tyi tyi_159] at hl
  obtain ⟨g0, q0, t0⟩ := trod_field h fldt_159_0
  rw [cellsOf_tyi tyi_9] at t0
  obtain ⟨x0, hx0⟩ := (opens_str (of_isStr isStr_9)) enc W spare held _ _ _ t0
  obtain ⟨g1, q1, t1⟩ := trod_field h fldt_159_1
  rw [cellsOf_tyi tyi_3] at t1
  obtain ⟨x1, hx1⟩ := (opens_int (of_intKd intKd_3)) enc W spare held _ _ _ t1
  obtain ⟨g2, q2, t2⟩ := trod_field h fldt_159_2
  rw [cellsOf_tyi tyi_3] at t2
  obtain ⟨x2, hx2⟩ := (opens_int (of_intKd intKd_3)) enc W spare held _ _ _ t2
  obtain ⟨g3, q3, t3⟩ := trod_field h fldt_159_3
  rw [cellsOf_tyi tyi_4] at t3
  obtain ⟨x3, hx3⟩ := (opens_bool und_4) enc W spare held _ _ _ t3
  obtain ⟨g4, q4, t4⟩ := trod_field h fldt_159_4
  rw [cellsOf_tyi tyi_3] at t4
  obtain ⟨x4, hx4⟩ := (opens_int (of_intKd intKd_3)) enc W spare held _ _ _ t4
  obtain ⟨g5, q5, t5⟩ := trod_field h fldt_159_5
  rw [cellsOf_tyi tyi_3] at t5
  obtain ⟨x5, hx5⟩ := (opens_int (of_intKd intKd_3)) enc W spare held _ _ _ t5
  obtain ⟨g6, q6, t6⟩ := trod_field h fldt_159_6
  rw [cellsOf_tyi tyi_3] at t6
  obtain ⟨x6, hx6⟩ := (opens_int (of_intKd intKd_3)) enc W spare held _ _ _ t6
  obtain ⟨g7, q7, t7⟩ := trod_field h fldt_159_7
  rw [cellsOf_tyi tyi_3] at t7
  obtain ⟨x7, hx7⟩ := (opens_int (of_intKd intKd_3)) enc W spare held _ _ _ t7
  obtain ⟨g8, q8, t8⟩ := trod_field h fldt_159_8
  rw [cellsOf_tyi tyi_3] at t8
  obtain ⟨x8, hx8⟩ := (opens_int (of_intKd intKd_3)) enc W spare held _ _ _ t8
  obtain ⟨g9, q9, t9⟩ := trod_field h fldt_159_9
  rw [cellsOf_tyi tyi_3] at t9
  obtain ⟨x9, hx9⟩ := (opens_int (of_intKd intKd_3)) enc W spare held _ _ _ t9
  refine ⟨⟨x0, x1, x2, x3, x4, x5, x6, x7, x8, x9⟩, fun H => ?_⟩
  obtain ⟨e0, b0⟩ := hx0 H
  obtain ⟨e1, b1⟩ := hx1 H
  obtain ⟨e2, b2⟩ := hx2 H
  have e3 := hx3 H
  obtain ⟨e4, b4⟩ := hx4 H
  obtain ⟨e5, b5⟩ := hx5 H
  obtain ⟨e6, b6⟩ := hx6 H
  obtain ⟨e7, b7⟩ := hx7 H
  obtain ⟨e8, b8⟩ := hx8 H
  obtain ⟨e9, b9⟩ := hx9 H
  have all : cs.map AV.v = ((cs.drop 0).take 1).map AV.v ++ ((cs.drop 1).take 1).map AV.v ++ ((cs.drop 2).take 1).map AV.v ++ ((cs.drop 3).take 1).map AV.v ++ ((cs.drop 4).take 1).map AV.v ++ ((cs.drop 5).take 1).map AV.v ++ ((cs.drop 6).take 1).map AV.v ++ ((cs.drop 7).take 1).map AV.v ++ ((cs.drop 8).take 1).map AV.v ++ ((cs.drop 9).take 1).map AV.v := by
    rw [← List.map_append, ← List.map_append, ← List.map_append, ← List.map_append, ← List.map_append, ← List.map_append, ← List.map_append, ← List.map_append, ← List.map_append]
    congr 1
    simp only [List.drop_zero, ← List.take_add, Nat.reduceAdd]
    rw [List.take_of_length_le (by omega)]
  rw [e0, e1, e2, e3, e4, e5, e6, e7, e8, e9] at all
  exact ⟨all, b0, b1, b2, b4, b5, b6, b7, b8, b9⟩
theorem opens_KRow : Opens Try.prog KRowD 157 := by
  intro D enc W spare held fuel cs r h
  have hl := trod_len h fldt_157_0
  rw [cellsOf_tyi tyi_157] at hl
  obtain ⟨g0, q0, t0⟩ := trod_field h fldt_157_0
  rw [cellsOf_tyi tyi_9] at t0
  obtain ⟨x0, hx0⟩ := (opens_str (of_isStr isStr_9)) enc W spare held _ _ _ t0
  obtain ⟨g1, q1, t1⟩ := trod_field h fldt_157_1
  rw [cellsOf_tyi tyi_3] at t1
  obtain ⟨x1, hx1⟩ := (opens_int (of_intKd intKd_3)) enc W spare held _ _ _ t1
  refine ⟨⟨x0, x1⟩, fun H => ?_⟩
  obtain ⟨e0, b0⟩ := hx0 H
  obtain ⟨e1, b1⟩ := hx1 H
  have all : cs.map AV.v = ((cs.drop 0).take 1).map AV.v ++ ((cs.drop 1).take 1).map AV.v := by
    rw [← List.map_append]
    congr 1
    simp only [List.drop_zero, ← List.take_add, Nat.reduceAdd]
    rw [List.take_of_length_le (by omega)]
  rw [e0, e1] at all
  exact ⟨all, b0, b1⟩
theorem opens_Queue : Opens Try.prog QueueD 95 := by
  intro D enc W spare held fuel cs r h
  have hl := trod_len h fldt_95_0
  rw [cellsOf_tyi tyi_95] at hl
  obtain ⟨g0, q0, t0⟩ := trod_field h fldt_95_0
  rw [cellsOf_tyi tyi_93] at t0
  obtain ⟨x0, hx0⟩ := (opens_list (of_elt elt_93) (opens_Op) (cellsOf_tyi tyi_42)) enc W spare held _ _ _ t0
  refine ⟨⟨x0⟩, fun H => ?_⟩
  obtain ⟨v0, e0, b0⟩ := hx0 H
  have all : cs.map AV.v = ((cs.drop 0).take 1).map AV.v := by
    skip
    congr 1
    simp only [List.drop_zero, ← List.take_add, Nat.reduceAdd]
    rw [List.take_of_length_le (by omega)]
  rw [e0] at all
  exact ⟨v0, all, b0⟩
theorem opens_Model : Opens Try.prog ModelD 40 := by
  intro D enc W spare held fuel cs r h
  have hl := trod_len h fldt_40_0
  rw [cellsOf_tyi tyi_40] at hl
  obtain ⟨g0, q0, t0⟩ := trod_field h fldt_40_0
  rw [cellsOf_tyi tyi_37] at t0
  obtain ⟨x0, hx0⟩ := (opens_list (of_elt elt_37) (opens_KRow) (cellsOf_tyi tyi_157)) enc W spare held _ _ _ t0
  obtain ⟨g1, q1, t1⟩ := trod_field h fldt_40_1
  rw [cellsOf_tyi tyi_38] at t1
  obtain ⟨x1, hx1⟩ := (opens_list (of_elt elt_38) (opens_Row) (cellsOf_tyi tyi_159)) enc W spare held _ _ _ t1
  refine ⟨⟨x0, x1⟩, fun H => ?_⟩
  obtain ⟨v0, e0, b0⟩ := hx0 H
  obtain ⟨v1, e1, b1⟩ := hx1 H
  have all : cs.map AV.v = ((cs.drop 0).take 1).map AV.v ++ ((cs.drop 1).take 1).map AV.v := by
    rw [← List.map_append]
    congr 1
    simp only [List.drop_zero, ← List.take_add, Nat.reduceAdd]
    rw [List.take_of_length_le (by omega)]
  rw [e0, e1] at all
  exact ⟨v0, v1, all, b0, b1⟩
end Go.Proofs.Ytipfnhfcoolhaaa.Aw
