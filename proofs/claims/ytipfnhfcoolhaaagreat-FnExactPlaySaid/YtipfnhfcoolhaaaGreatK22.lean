/- Parts of a proof: Dc. -/
import Derived.Test.YtipfnhfcoolhaaaGreatK02
import Derived.Test.YtipfnhfcoolhaaaGreatK04
set_option linter.unusedVariables false
set_option linter.unusedSimpArgs false
namespace Go.Proofs.YtipfnhfcoolhaaaGreat.Aw
open Go Go.RowKit
set_option maxRecDepth 100000
theorem opens_Op : Opens Tryz.prog OpD 172 := by
  intro D enc W spare held fuel cs r h
  have hl := trod_len h fldt_172_0
  rw [cellsOf_tyi tyi_172] at hl
  obtain ⟨g0, q0, t0⟩ := trod_field h fldt_172_0
  rw [cellsOf_tyi tyi_3] at t0
  obtain ⟨x0, hx0⟩ := (opens_int (of_intKd intKd_3)) enc W spare held _ _ _ t0
  obtain ⟨g1, q1, t1⟩ := trod_field h fldt_172_1
  rw [cellsOf_tyi tyi_9] at t1
  obtain ⟨x1, hx1⟩ := (opens_str (of_isStr isStr_9)) enc W spare held _ _ _ t1
  obtain ⟨g2, q2, t2⟩ := trod_field h fldt_172_2
  rw [cellsOf_tyi tyi_3] at t2
  obtain ⟨x2, hx2⟩ := (opens_int (of_intKd intKd_3)) enc W spare held _ _ _ t2
  obtain ⟨g3, q3, t3⟩ := trod_field h fldt_172_3
  rw [cellsOf_tyi tyi_3] at t3
  obtain ⟨x3, hx3⟩ := (opens_int (of_intKd intKd_3)) enc W spare held _ _ _ t3
  refine ⟨⟨x0, x1, x2, x3⟩, fun H => ?_⟩
  obtain ⟨e0, b0⟩ := hx0 H
  obtain ⟨e1, b1⟩ := hx1 H
  obtain ⟨e2, b2⟩ := hx2 H
  obtain ⟨e3, b3⟩ := hx3 H
  have all : cs.map AV.v = ((cs.drop 0).take 1).map AV.v ++ ((cs.drop 1).take 1).map AV.v ++ ((cs.drop 2).take 1).map AV.v ++ ((cs.drop 3).take 1).map AV.v := by
    rw [← List.map_append, ← List.map_append, ← List.map_append]
    congr 1
    simp only [List.drop_zero, ← List.take_add, Nat.reduceAdd]
    rw [List.take_of_length_le (by omega)]
  rw [e0, e1, e2, e3] at all
  exact ⟨all, b0, b1, b2, b3⟩
theorem opens_Row : Opens Tryz.prog RowD 233 := by
  intro D enc W spare held fuel cs r h
  have hl := trod_len h fldt_233_0
  rw [cellsOf_tyi tyi_233] at hl
  obtain ⟨g0, q0, t0⟩ := trod_field h fldt_233_0
  rw [cellsOf_tyi tyi_9] at t0
  obtain ⟨x0, hx0⟩ := (opens_str (of_isStr isStr_9)) enc W spare held _ _ _ t0
  obtain ⟨g1, q1, t1⟩ := trod_field h fldt_233_1
  rw [cellsOf_tyi tyi_3] at t1
  obtain ⟨x1, hx1⟩ := (opens_int (of_intKd intKd_3)) enc W spare held _ _ _ t1
  obtain ⟨g2, q2, t2⟩ := trod_field h fldt_233_2
  rw [cellsOf_tyi tyi_3] at t2
  obtain ⟨x2, hx2⟩ := (opens_int (of_intKd intKd_3)) enc W spare held _ _ _ t2
  obtain ⟨g3, q3, t3⟩ := trod_field h fldt_233_3
  rw [cellsOf_tyi tyi_4] at t3
  obtain ⟨x3, hx3⟩ := (opens_bool und_4) enc W spare held _ _ _ t3
  obtain ⟨g4, q4, t4⟩ := trod_field h fldt_233_4
  rw [cellsOf_tyi tyi_3] at t4
  obtain ⟨x4, hx4⟩ := (opens_int (of_intKd intKd_3)) enc W spare held _ _ _ t4
  obtain ⟨g5, q5, t5⟩ := trod_field h fldt_233_5
  rw [cellsOf_tyi tyi_3] at t5
  obtain ⟨x5, hx5⟩ := (opens_int (of_intKd intKd_3)) enc W spare held _ _ _ t5
  obtain ⟨g6, q6, t6⟩ := trod_field h fldt_233_6
  rw [cellsOf_tyi tyi_3] at t6
  obtain ⟨x6, hx6⟩ := (opens_int (of_intKd intKd_3)) enc W spare held _ _ _ t6
  obtain ⟨g7, q7, t7⟩ := trod_field h fldt_233_7
  rw [cellsOf_tyi tyi_3] at t7
  obtain ⟨x7, hx7⟩ := (opens_int (of_intKd intKd_3)) enc W spare held _ _ _ t7
  obtain ⟨g8, q8, t8⟩ := trod_field h fldt_233_8
  rw [cellsOf_tyi tyi_3] at t8
  obtain ⟨x8, hx8⟩ := (opens_int (of_intKd intKd_3)) enc W spare held _ _ _ t8
  obtain ⟨g9, q9, t9⟩ := trod_field h fldt_233_9
  rw [cellsOf_tyi tyi_3] at t9
  obtain ⟨x9, hx9⟩ := (opens_int (of_intKd intKd_3)) enc W spare held _ _ _ t9
  refine ⟨⟨x0, x1, x2, x3, x4, x5, x6, x7, x8, x9⟩, fun H => ?_⟩
  obtain ⟨e0, b0⟩ := hx0 H
  obtain ⟨e1, b1⟩ := hx1 H
  obtain ⟨e2, b2⟩ := hx2 H
  have e3 := hx3 H
  obtain ⟨e4, b4⟩ := hx4 H
  obtain ⟨e5, b5⟩ := hx5 H
  obtain ⟨e6, b6⟩ := hx6 H
  obtain ⟨e7, b7⟩ := hx7 H
  obtain ⟨e8, b8⟩ := hx8 H
  obtain ⟨e9, b9⟩ := hx9 H
  have all : cs.map AV.v = ((cs.drop 0).take 1).map AV.v ++ ((cs.drop 1).take 1).map AV.v ++ ((cs.drop 2).take 1).map AV.v ++ ((cs.drop 3).take 1).map AV.v ++ ((cs.drop 4).take 1).map AV.v ++ ((cs.drop 5).take 1).map AV.v ++ ((cs.drop 6).take 1).map AV.v ++ ((cs.drop 7).take 1).map AV.v ++ ((cs.drop 8).take 1).map AV.v ++ ((cs.drop 9).take 1).map AV.v := by
    rw [← List.map_append, ← List.map_append, ← List.map_append, ← List.map_append, ← List.map_append, ← List.map_append, ← List.map_append, ← List.map_append, ← List.map_append]
    congr 1
    simp only [List.drop_zero, ← List.take_add, Nat.reduceAdd]
    rw [List.take_of_length_le (by omega)]
  rw [e0, e1, e2, e3, e4, e5, e6, e7, e8, e9] at all
  exact ⟨all, b0, b1, b2, b4, b5, b6, b7, b8, b9⟩
theorem opens_Queue : Opens Tryz.prog QueueD 158 := by
  intro D enc W spare held fuel cs r h
  have hl := trod_len h fldt_158_0
  rw [cellsOf_tyi tyi_158] at hl
  obtain ⟨g0, q0, t0⟩ := trod_field h fldt_158_0
  rw [cellsOf_tyi tyi_156] at t0
  obtain ⟨x0, hx0⟩ := (opens_list (of_elt elt_156) (opens_Op) (cellsOf_tyi tyi_172)) enc W spare held _ _ _ t0
  refine ⟨⟨x0⟩, fun H => ?_⟩
  obtain ⟨v0, e0, b0⟩ := hx0 H
  have all : cs.map AV.v = ((cs.drop 0).take 1).map AV.v := by
    skip
    congr 1
    simp only [List.drop_zero, ← List.take_add, Nat.reduceAdd]
    rw [List.take_of_length_le (by omega)]
  rw [e0] at all
  exact ⟨v0, all, b0⟩
theorem opens_Job : Opens Tryz.prog JobD 174 := by
  intro D enc W spare held fuel cs r h
  have hl := trod_len h fldt_174_0
  rw [cellsOf_tyi tyi_174] at hl
  obtain ⟨g0, q0, t0⟩ := trod_field h fldt_174_0
  rw [cellsOf_tyi tyi_4] at t0
  obtain ⟨x0, hx0⟩ := (opens_bool und_4) enc W spare held _ _ _ t0
  obtain ⟨g1, q1, t1⟩ := trod_field h fldt_174_1
  rw [cellsOf_tyi tyi_172] at t1
  obtain ⟨x1, hx1⟩ := (opens_Op) enc W spare held _ _ _ t1
  obtain ⟨g2, q2, t2⟩ := trod_field h fldt_174_2
  rw [cellsOf_tyi tyi_3] at t2
  obtain ⟨x2, hx2⟩ := (opens_int (of_intKd intKd_3)) enc W spare held _ _ _ t2
  obtain ⟨g3, q3, t3⟩ := trod_field h fldt_174_3
  rw [cellsOf_tyi tyi_3] at t3
  obtain ⟨x3, hx3⟩ := (opens_int (of_intKd intKd_3)) enc W spare held _ _ _ t3
  obtain ⟨g4, q4, t4⟩ := trod_field h fldt_174_4
  rw [cellsOf_tyi tyi_3] at t4
  obtain ⟨x4, hx4⟩ := (opens_int (of_intKd intKd_3)) enc W spare held _ _ _ t4
  obtain ⟨g5, q5, t5⟩ := trod_field h fldt_174_5
  rw [cellsOf_tyi tyi_3] at t5
  obtain ⟨x5, hx5⟩ := (opens_int (of_intKd intKd_3)) enc W spare held _ _ _ t5
  obtain ⟨g6, q6, t6⟩ := trod_field h fldt_174_6
  rw [cellsOf_tyi tyi_3] at t6
  obtain ⟨x6, hx6⟩ := (opens_int (of_intKd intKd_3)) enc W spare held _ _ _ t6
  obtain ⟨g7, q7, t7⟩ := trod_field h fldt_174_7
  rw [cellsOf_tyi tyi_3] at t7
  obtain ⟨x7, hx7⟩ := (opens_int (of_intKd intKd_3)) enc W spare held _ _ _ t7
  obtain ⟨g8, q8, t8⟩ := trod_field h fldt_174_8
  rw [cellsOf_tyi tyi_3] at t8
  obtain ⟨x8, hx8⟩ := (opens_int (of_intKd intKd_3)) enc W spare held _ _ _ t8
  obtain ⟨g9, q9, t9⟩ := trod_field h fldt_174_9
  rw [cellsOf_tyi tyi_3] at t9
  obtain ⟨x9, hx9⟩ := (opens_int (of_intKd intKd_3)) enc W spare held _ _ _ t9
  obtain ⟨g10, q10, t10⟩ := trod_field h fldt_174_10
  rw [cellsOf_tyi tyi_3] at t10
  obtain ⟨x10, hx10⟩ := (opens_int (of_intKd intKd_3)) enc W spare held _ _ _ t10
  obtain ⟨g11, q11, t11⟩ := trod_field h fldt_174_11
  rw [cellsOf_tyi tyi_3] at t11
  obtain ⟨x11, hx11⟩ := (opens_int (of_intKd intKd_3)) enc W spare held _ _ _ t11
  obtain ⟨g12, q12, t12⟩ := trod_field h fldt_174_12
  rw [cellsOf_tyi tyi_3] at t12
  obtain ⟨x12, hx12⟩ := (opens_int (of_intKd intKd_3)) enc W spare held _ _ _ t12
  obtain ⟨g13, q13, t13⟩ := trod_field h fldt_174_13
  rw [cellsOf_tyi tyi_22] at t13
  obtain ⟨x13, hx13⟩ := (opens_list (of_elt elt_22) (opens_int (of_intKd intKd_3)) (cellsOf_tyi tyi_3)) enc W spare held _ _ _ t13
  obtain ⟨g14, q14, t14⟩ := trod_field h fldt_174_14
  rw [cellsOf_tyi tyi_22] at t14
  obtain ⟨x14, hx14⟩ := (opens_list (of_elt elt_22) (opens_int (of_intKd intKd_3)) (cellsOf_tyi tyi_3)) enc W spare held _ _ _ t14
  refine ⟨⟨x0, x1, x2, x3, x4, x5, x6, x7, x8, x9, x10, x11, x12, x13, x14⟩, fun H => ?_⟩
  have e0 := hx0 H
  obtain ⟨e1, b1_0, b1_1, b1_2, b1_3⟩ := hx1 H
  obtain ⟨e2, b2⟩ := hx2 H
  obtain ⟨e3, b3⟩ := hx3 H
  obtain ⟨e4, b4⟩ := hx4 H
  obtain ⟨e5, b5⟩ := hx5 H
  obtain ⟨e6, b6⟩ := hx6 H
  obtain ⟨e7, b7⟩ := hx7 H
  obtain ⟨e8, b8⟩ := hx8 H
  obtain ⟨e9, b9⟩ := hx9 H
  obtain ⟨e10, b10⟩ := hx10 H
  obtain ⟨e11, b11⟩ := hx11 H
  obtain ⟨e12, b12⟩ := hx12 H
  obtain ⟨v13, e13, b13⟩ := hx13 H
  obtain ⟨v14, e14, b14⟩ := hx14 H
  have all : cs.map AV.v = ((cs.drop 0).take 1).map AV.v ++ ((cs.drop 1).take 4).map AV.v ++ ((cs.drop 5).take 1).map AV.v ++ ((cs.drop 6).take 1).map AV.v ++ ((cs.drop 7).take 1).map AV.v ++ ((cs.drop 8).take 1).map AV.v ++ ((cs.drop 9).take 1).map AV.v ++ ((cs.drop 10).take 1).map AV.v ++ ((cs.drop 11).take 1).map AV.v ++ ((cs.drop 12).take 1).map AV.v ++ ((cs.drop 13).take 1).map AV.v ++ ((cs.drop 14).take 1).map AV.v ++ ((cs.drop 15).take 1).map AV.v ++ ((cs.drop 16).take 1).map AV.v ++ ((cs.drop 17).take 1).map AV.v := by
    rw [← List.map_append, ← List.map_append, ← List.map_append, ← List.map_append, ← List.map_append, ← List.map_append, ← List.map_append, ← List.map_append, ← List.map_append, ← List.map_append, ← List.map_append, ← List.map_append, ← List.map_append, ← List.map_append]
    congr 1
    simp only [List.drop_zero, ← List.take_add, Nat.reduceAdd]
    rw [List.take_of_length_le (by omega)]
  rw [e0, e1, e2, e3, e4, e5, e6, e7, e8, e9, e10, e11, e12, e13, e14] at all
  exact ⟨v13, v14, all, b1_0, b1_1, b1_2, b1_3, b2, b3, b4, b5, b6, b7, b8, b9, b10, b11, b12, b13, b14⟩
theorem opens_Ev : Opens Tryz.prog EvD 178 := by
  intro D enc W spare held fuel cs r h
  have hl := trod_len h fldt_178_0
  rw [cellsOf_tyi tyi_178] at hl
  obtain ⟨g0, q0, t0⟩ := trod_field h fldt_178_0
  rw [cellsOf_tyi tyi_3] at t0
  obtain ⟨x0, hx0⟩ := (opens_int (of_intKd intKd_3)) enc W spare held _ _ _ t0
  obtain ⟨g1, q1, t1⟩ := trod_field h fldt_178_1
  rw [cellsOf_tyi tyi_3] at t1
  obtain ⟨x1, hx1⟩ := (opens_int (of_intKd intKd_3)) enc W spare held _ _ _ t1
  obtain ⟨g2, q2, t2⟩ := trod_field h fldt_178_2
  rw [cellsOf_tyi tyi_3] at t2
  obtain ⟨x2, hx2⟩ := (opens_int (of_intKd intKd_3)) enc W spare held _ _ _ t2
  obtain ⟨g3, q3, t3⟩ := trod_field h fldt_178_3
  rw [cellsOf_tyi tyi_3] at t3
  obtain ⟨x3, hx3⟩ := (opens_int (of_intKd intKd_3)) enc W spare held _ _ _ t3
  obtain ⟨g4, q4, t4⟩ := trod_field h fldt_178_4
  rw [cellsOf_tyi tyi_172] at t4
  obtain ⟨x4, hx4⟩ := (opens_Op) enc W spare held _ _ _ t4
  obtain ⟨g5, q5, t5⟩ := trod_field h fldt_178_5
  rw [cellsOf_tyi tyi_3] at t5
  obtain ⟨x5, hx5⟩ := (opens_int (of_intKd intKd_3)) enc W spare held _ _ _ t5
  obtain ⟨g6, q6, t6⟩ := trod_field h fldt_178_6
  rw [cellsOf_tyi tyi_3] at t6
  obtain ⟨x6, hx6⟩ := (opens_int (of_intKd intKd_3)) enc W spare held _ _ _ t6
  obtain ⟨g7, q7, t7⟩ := trod_field h fldt_178_7
  rw [cellsOf_tyi tyi_3] at t7
  obtain ⟨x7, hx7⟩ := (opens_int (of_intKd intKd_3)) enc W spare held _ _ _ t7
  obtain ⟨g8, q8, t8⟩ := trod_field h fldt_178_8
  rw [cellsOf_tyi tyi_3] at t8
  obtain ⟨x8, hx8⟩ := (opens_int (of_intKd intKd_3)) enc W spare held _ _ _ t8
  obtain ⟨g9, q9, t9⟩ := trod_field h fldt_178_9
  rw [cellsOf_tyi tyi_176] at t9
  obtain ⟨x9, hx9⟩ := (opens_list (of_elt elt_176) (opens_Row) (cellsOf_tyi tyi_233)) enc W spare held _ _ _ t9
  refine ⟨⟨x0, x1, x2, x3, x4, x5, x6, x7, x8, x9⟩, fun H => ?_⟩
  obtain ⟨e0, b0⟩ := hx0 H
  obtain ⟨e1, b1⟩ := hx1 H
  obtain ⟨e2, b2⟩ := hx2 H
  obtain ⟨e3, b3⟩ := hx3 H
  obtain ⟨e4, b4_0, b4_1, b4_2, b4_3⟩ := hx4 H
  obtain ⟨e5, b5⟩ := hx5 H
  obtain ⟨e6, b6⟩ := hx6 H
  obtain ⟨e7, b7⟩ := hx7 H
  obtain ⟨e8, b8⟩ := hx8 H
  obtain ⟨v9, e9, b9⟩ := hx9 H
  have all : cs.map AV.v = ((cs.drop 0).take 1).map AV.v ++ ((cs.drop 1).take 1).map AV.v ++ ((cs.drop 2).take 1).map AV.v ++ ((cs.drop 3).take 1).map AV.v ++ ((cs.drop 4).take 4).map AV.v ++ ((cs.drop 8).take 1).map AV.v ++ ((cs.drop 9).take 1).map AV.v ++ ((cs.drop 10).take 1).map AV.v ++ ((cs.drop 11).take 1).map AV.v ++ ((cs.drop 12).take 1).map AV.v := by
    rw [← List.map_append, ← List.map_append, ← List.map_append, ← List.map_append, ← List.map_append, ← List.map_append, ← List.map_append, ← List.map_append, ← List.map_append]
    congr 1
    simp only [List.drop_zero, ← List.take_add, Nat.reduceAdd]
    rw [List.take_of_length_le (by omega)]
  rw [e0, e1, e2, e3, e4, e5, e6, e7, e8, e9] at all
  exact ⟨v9, all, b0, b1, b2, b3, b4_0, b4_1, b4_2, b4_3, b5, b6, b7, b8, b9⟩
theorem opens_World : Opens Tryz.prog WorldD 55 := by
  intro D enc W spare held fuel cs r h
  have hl := trod_len h fldt_55_0
  rw [cellsOf_tyi tyi_55] at hl
  obtain ⟨g0, q0, t0⟩ := trod_field h fldt_55_0
  rw [cellsOf_tyi tyi_22] at t0
  obtain ⟨x0, hx0⟩ := (opens_list (of_elt elt_22) (opens_int (of_intKd intKd_3)) (cellsOf_tyi tyi_3)) enc W spare held _ _ _ t0
  obtain ⟨g1, q1, t1⟩ := trod_field h fldt_55_1
  rw [cellsOf_tyi tyi_52] at t1
  obtain ⟨x1, hx1⟩ := (opens_list (of_elt elt_52) (opens_Job) (cellsOf_tyi tyi_174)) enc W spare held _ _ _ t1
  obtain ⟨g2, q2, t2⟩ := trod_field h fldt_55_2
  rw [cellsOf_tyi tyi_34] at t2
  obtain ⟨x2, hx2⟩ := (opens_list (of_elt elt_34) (opens_Queue) (cellsOf_tyi tyi_158)) enc W spare held _ _ _ t2
  obtain ⟨g3, q3, t3⟩ := trod_field h fldt_55_3
  rw [cellsOf_tyi tyi_53] at t3
  obtain ⟨x3, hx3⟩ := (opens_list (of_elt elt_53) (opens_Ev) (cellsOf_tyi tyi_178)) enc W spare held _ _ _ t3
  obtain ⟨g4, q4, t4⟩ := trod_field h fldt_55_4
  rw [cellsOf_tyi tyi_3] at t4
  obtain ⟨x4, hx4⟩ := (opens_int (of_intKd intKd_3)) enc W spare held _ _ _ t4
  obtain ⟨g5, q5, t5⟩ := trod_field h fldt_55_5
  rw [cellsOf_tyi tyi_3] at t5
  obtain ⟨x5, hx5⟩ := (opens_int (of_intKd intKd_3)) enc W spare held _ _ _ t5
  refine ⟨⟨x0, x1, x2, x3, x4, x5⟩, fun H => ?_⟩
  obtain ⟨v0, e0, b0⟩ := hx0 H
  obtain ⟨v1, e1, b1⟩ := hx1 H
  obtain ⟨v2, e2, b2⟩ := hx2 H
  obtain ⟨v3, e3, b3⟩ := hx3 H
  obtain ⟨e4, b4⟩ := hx4 H
  obtain ⟨e5, b5⟩ := hx5 H
  have all : cs.map AV.v = ((cs.drop 0).take 1).map AV.v ++ ((cs.drop 1).take 1).map AV.v ++ ((cs.drop 2).take 1).map AV.v ++ ((cs.drop 3).take 1).map AV.v ++ ((cs.drop 4).take 1).map AV.v ++ ((cs.drop 5).take 1).map AV.v := by
    rw [← List.map_append, ← List.map_append, ← List.map_append, ← List.map_append, ← List.map_append]
    congr 1
    simp only [List.drop_zero, ← List.take_add, Nat.reduceAdd]
    rw [List.take_of_length_le (by omega)]
  rw [e0, e1, e2, e3, e4, e5] at all
  exact ⟨v0, v1, v2, v3, all, b0, b1, b2, b3, b4, b5⟩
theorem opens_Script : Opens Tryz.prog ScriptD 36 := by
  intro D enc W spare held fuel cs r h
  have hl := trod_len h fldt_36_0
  rw [cellsOf_tyi tyi_36] at hl
  obtain ⟨g0, q0, t0⟩ := trod_field h fldt_36_0
  rw [cellsOf_tyi tyi_34] at t0
  obtain ⟨x0, hx0⟩ := (opens_list (of_elt elt_34) (opens_Queue) (cellsOf_tyi tyi_158)) enc W spare held _ _ _ t0
  obtain ⟨g1, q1, t1⟩ := trod_field h fldt_36_1
  rw [cellsOf_tyi tyi_22] at t1
  obtain ⟨x1, hx1⟩ := (opens_list (of_elt elt_22) (opens_int (of_intKd intKd_3)) (cellsOf_tyi tyi_3)) enc W spare held _ _ _ t1
  refine ⟨⟨x0, x1⟩, fun H => ?_⟩
  obtain ⟨v0, e0, b0⟩ := hx0 H
  obtain ⟨v1, e1, b1⟩ := hx1 H
  have all : cs.map AV.v = ((cs.drop 0).take 1).map AV.v ++ ((cs.drop 1).take 1).map AV.v := by
    rw [← List.map_append]
    congr 1
    simp only [List.drop_zero, ← List.take_add, Nat.reduceAdd]
    rw [List.take_of_length_le (by omega)]
  rw [e0, e1] at all
  exact ⟨v0, v1, all, b0, b1⟩
end Go.Proofs.YtipfnhfcoolhaaaGreat.Aw
