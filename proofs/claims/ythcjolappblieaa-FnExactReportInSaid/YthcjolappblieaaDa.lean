/- The program's records, as Lean types, and how they lie in memory. Printed by gen.py. -/
import Derived.Test.YthcjolappblieaaAx5
namespace Go.Proofs.Ythcjolappblieaa.Aw
open Go Go.RowKit
set_option linter.unusedVariables false
set_option linter.unusedSimpArgs false
@[ext] structure OpD where
  kind : Int
  key : ByteArray
  what : Int
  val : Int
  deriving DecidableEq
theorem OpD.ext_iff' {x y : OpD} : x = y ↔ x.kind = y.kind ∧ x.key = y.key ∧ x.what = y.what ∧ x.val = y.val := by
  cases x; cases y; simp
instance : Ob OpD where
  n := 4
  rep W0 H cs x := cs = [.v (.int .i64 x.kind), .v (.string x.key), .v (.int .i64 x.what), .v (.int .i64 x.val)] ∧ inI64 x.kind ∧ x.key.size ≤ big ∧ inI64 x.what ∧ inI64 x.val
  len := by rintro _ _ _ _ ⟨rfl, _⟩; rfl
  sub _ h := h
  leaf := by rintro _ _ _ _ ⟨rfl, _⟩; rfl
  sz x := x.key.size
@[ext] structure RowD where
  key : ByteArray
  kind : Int
  sum : Int
  set : Bool
  last : Int
  n : Int
  mn : Int
  mx : Int
  total : Int
  dropped : Int
  deriving DecidableEq
theorem RowD.ext_iff' {x y : RowD} : x = y ↔ x.key = y.key ∧ x.kind = y.kind ∧ x.sum = y.sum ∧ x.set = y.set ∧ x.last = y.last ∧ x.n = y.n ∧ x.mn = y.mn ∧ x.mx = y.mx ∧ x.total = y.total ∧ x.dropped = y.dropped := by
  cases x; cases y; simp
instance : Ob RowD where
  n := 10
  rep W0 H cs x := cs = [.v (.string x.key), .v (.int .i64 x.kind), .v (.int .i64 x.sum), .v (.bool x.set), .v (.int .i64 x.last), .v (.int .i64 x.n), .v (.int .i64 x.mn), .v (.int .i64 x.mx), .v (.int .i64 x.total), .v (.int .i64 x.dropped)] ∧ x.key.size ≤ big ∧ inI64 x.kind ∧ inI64 x.sum ∧ inI64 x.last ∧ inI64 x.n ∧ inI64 x.mn ∧ inI64 x.mx ∧ inI64 x.total ∧ inI64 x.dropped
  len := by rintro _ _ _ _ ⟨rfl, _⟩; rfl
  sub _ h := h
  leaf := by rintro _ _ _ _ ⟨rfl, _⟩; rfl
  sz x := x.key.size
@[ext] structure KRowD where
  key : ByteArray
  kind : Int
  deriving DecidableEq
theorem KRowD.ext_iff' {x y : KRowD} : x = y ↔ x.key = y.key ∧ x.kind = y.kind := by
  cases x; cases y; simp
instance : Ob KRowD where
  n := 2
  rep W0 H cs x := cs = [.v (.string x.key), .v (.int .i64 x.kind)] ∧ x.key.size ≤ big ∧ inI64 x.kind
  len := by rintro _ _ _ _ ⟨rfl, _⟩; rfl
  sub _ h := h
  leaf := by rintro _ _ _ _ ⟨rfl, _⟩; rfl
  sz x := x.key.size
@[ext] structure QueueD where
  ops : List OpD
  deriving DecidableEq
theorem QueueD.ext_iff' {x y : QueueD} : x = y ↔ x.ops = y.ops := by
  cases x; cases y; simp
instance : Ob QueueD where
  n := 1
  rep W0 H cs x := ∃ v_ops, cs = [v_ops] ∧ SlR W0 H v_ops x.ops
  len := by rintro _ _ _ _ ⟨v_ops, rfl, _⟩; rfl
  sub := by
    rintro _ _ _ _ _ hs ⟨v_ops, rfl, f0⟩
    exact ⟨v_ops, rfl, f0.sub hs⟩
  leaf := by
    rintro _ _ _ _ ⟨v_ops, rfl, f0⟩
    simp only [List.all_cons, List.all_nil, leafA_int, leafA_bool, leafA_string, Bool.and_true, f0.leaf]
  sz x := Ob.sz x.ops
@[ext] structure JobD where
  busy : Bool
  op : OpD
  serial : Int
  pc : Int
  k : Int
  slot : Int
  what : Int
  e : Int
  stamp : Int
  old : Int
  flips : Int
  steps : Int
  code : Int
  keys : List Int
  raw : List Int
  deriving DecidableEq
theorem JobD.ext_iff' {x y : JobD} : x = y ↔ x.busy = y.busy ∧ x.op = y.op ∧ x.serial = y.serial ∧ x.pc = y.pc ∧ x.k = y.k ∧ x.slot = y.slot ∧ x.what = y.what ∧ x.e = y.e ∧ x.stamp = y.stamp ∧ x.old = y.old ∧ x.flips = y.flips ∧ x.steps = y.steps ∧ x.code = y.code ∧ x.keys = y.keys ∧ x.raw = y.raw := by
  cases x; cases y; simp
instance : Ob JobD where
  n := 18
  rep W0 H cs x := ∃ v_keys v_raw, cs = [.v (.bool x.busy), .v (.int .i64 x.op.kind), .v (.string x.op.key), .v (.int .i64 x.op.what), .v (.int .i64 x.op.val), .v (.int .i64 x.serial), .v (.int .i64 x.pc), .v (.int .i64 x.k), .v (.int .i64 x.slot), .v (.int .i64 x.what), .v (.int .i64 x.e), .v (.int .i64 x.stamp), .v (.int .i64 x.old), .v (.int .i64 x.flips), .v (.int .i64 x.steps), .v (.int .i64 x.code), v_keys, v_raw] ∧ inI64 x.op.kind ∧ x.op.key.size ≤ big ∧ inI64 x.op.what ∧ inI64 x.op.val ∧ inI64 x.serial ∧ inI64 x.pc ∧ inI64 x.k ∧ inI64 x.slot ∧ inI64 x.what ∧ inI64 x.e ∧ inI64 x.stamp ∧ inI64 x.old ∧ inI64 x.flips ∧ inI64 x.steps ∧ inI64 x.code ∧ SlR W0 H v_keys x.keys ∧ SlR W0 H v_raw x.raw
  len := by rintro _ _ _ _ ⟨v_keys, v_raw, rfl, _⟩; rfl
  sub := by
    rintro _ _ _ _ _ hs ⟨v_keys, v_raw, rfl, f0, f1, f2, f3, f4, f5, f6, f7, f8, f9, f10, f11, f12, f13, f14, f15, f16⟩
    exact ⟨v_keys, v_raw, rfl, f0, f1, f2, f3, f4, f5, f6, f7, f8, f9, f10, f11, f12, f13, f14, f15.sub hs, f16.sub hs⟩
  leaf := by
    rintro _ _ _ _ ⟨v_keys, v_raw, rfl, f0, f1, f2, f3, f4, f5, f6, f7, f8, f9, f10, f11, f12, f13, f14, f15, f16⟩
    simp only [List.all_cons, List.all_nil, leafA_int, leafA_bool, leafA_string, Bool.and_true, f15.leaf, f16.leaf]
  sz x := Ob.sz x.op + Ob.sz x.keys + Ob.sz x.raw
theorem JobD.out {W0 : World} {H : AH} {cs : List AV} {x : JobD} (h : Ob.rep W0 H cs x) : ∃ v_keys v_raw, cs = [.v (.bool x.busy), .v (.int .i64 x.op.kind), .v (.string x.op.key), .v (.int .i64 x.op.what), .v (.int .i64 x.op.val), .v (.int .i64 x.serial), .v (.int .i64 x.pc), .v (.int .i64 x.k), .v (.int .i64 x.slot), .v (.int .i64 x.what), .v (.int .i64 x.e), .v (.int .i64 x.stamp), .v (.int .i64 x.old), .v (.int .i64 x.flips), .v (.int .i64 x.steps), .v (.int .i64 x.code), v_keys, v_raw] ∧ SlR W0 H v_keys x.keys ∧ SlR W0 H v_raw x.raw ∧ inI64 x.op.kind ∧ x.op.key.size ≤ big ∧ inI64 x.op.what ∧ inI64 x.op.val ∧ inI64 x.serial ∧ inI64 x.pc ∧ inI64 x.k ∧ inI64 x.slot ∧ inI64 x.what ∧ inI64 x.e ∧ inI64 x.stamp ∧ inI64 x.old ∧ inI64 x.flips ∧ inI64 x.steps ∧ inI64 x.code := by
  obtain ⟨v_keys, v_raw, h, f0, f1, f2, f3, f4, f5, f6, f7, f8, f9, f10, f11, f12, f13, f14, f15, f16⟩ := h
  exact ⟨v_keys, v_raw, h, f15, f16, f0, f1, f2, f3, f4, f5, f6, f7, f8, f9, f10, f11, f12, f13, f14⟩
@[ext] structure EvD where
  kind : Int
  who : Int
  serial : Int
  tm : Int
  op : OpD
  code : Int
  win : Int
  steps : Int
  flips : Int
  rows : List RowD
  deriving DecidableEq
theorem EvD.ext_iff' {x y : EvD} : x = y ↔ x.kind = y.kind ∧ x.who = y.who ∧ x.serial = y.serial ∧ x.tm = y.tm ∧ x.op = y.op ∧ x.code = y.code ∧ x.win = y.win ∧ x.steps = y.steps ∧ x.flips = y.flips ∧ x.rows = y.rows := by
  cases x; cases y; simp
instance : Ob EvD where
  n := 13
  rep W0 H cs x := ∃ v_rows, cs = [.v (.int .i64 x.kind), .v (.int .i64 x.who), .v (.int .i64 x.serial), .v (.int .i64 x.tm), .v (.int .i64 x.op.kind), .v (.string x.op.key), .v (.int .i64 x.op.what), .v (.int .i64 x.op.val), .v (.int .i64 x.code), .v (.int .i64 x.win), .v (.int .i64 x.steps), .v (.int .i64 x.flips), v_rows] ∧ inI64 x.kind ∧ inI64 x.who ∧ inI64 x.serial ∧ inI64 x.tm ∧ inI64 x.op.kind ∧ x.op.key.size ≤ big ∧ inI64 x.op.what ∧ inI64 x.op.val ∧ inI64 x.code ∧ inI64 x.win ∧ inI64 x.steps ∧ inI64 x.flips ∧ SlR W0 H v_rows x.rows
  len := by rintro _ _ _ _ ⟨v_rows, rfl, _⟩; rfl
  sub := by
    rintro _ _ _ _ _ hs ⟨v_rows, rfl, f0, f1, f2, f3, f4, f5, f6, f7, f8, f9, f10, f11, f12⟩
    exact ⟨v_rows, rfl, f0, f1, f2, f3, f4, f5, f6, f7, f8, f9, f10, f11, f12.sub hs⟩
  leaf := by
    rintro _ _ _ _ ⟨v_rows, rfl, f0, f1, f2, f3, f4, f5, f6, f7, f8, f9, f10, f11, f12⟩
    simp only [List.all_cons, List.all_nil, leafA_int, leafA_bool, leafA_string, Bool.and_true, f12.leaf]
  sz x := Ob.sz x.op + Ob.sz x.rows
theorem EvD.out {W0 : World} {H : AH} {cs : List AV} {x : EvD} (h : Ob.rep W0 H cs x) : ∃ v_rows, cs = [.v (.int .i64 x.kind), .v (.int .i64 x.who), .v (.int .i64 x.serial), .v (.int .i64 x.tm), .v (.int .i64 x.op.kind), .v (.string x.op.key), .v (.int .i64 x.op.what), .v (.int .i64 x.op.val), .v (.int .i64 x.code), .v (.int .i64 x.win), .v (.int .i64 x.steps), .v (.int .i64 x.flips), v_rows] ∧ SlR W0 H v_rows x.rows ∧ inI64 x.kind ∧ inI64 x.who ∧ inI64 x.serial ∧ inI64 x.tm ∧ inI64 x.op.kind ∧ x.op.key.size ≤ big ∧ inI64 x.op.what ∧ inI64 x.op.val ∧ inI64 x.code ∧ inI64 x.win ∧ inI64 x.steps ∧ inI64 x.flips := by
  obtain ⟨v_rows, h, f0, f1, f2, f3, f4, f5, f6, f7, f8, f9, f10, f11, f12⟩ := h
  exact ⟨v_rows, h, f12, f0, f1, f2, f3, f4, f5, f6, f7, f8, f9, f10, f11⟩
@[ext] structure WorldD where
  cells : List Int
  jobs : List JobD
  todo : List QueueD
  log : List EvD
  serial : Int
  now : Int
  deriving DecidableEq
theorem WorldD.ext_iff' {x y : WorldD} : x = y ↔ x.cells = y.cells ∧ x.jobs = y.jobs ∧ x.todo = y.todo ∧ x.log = y.log ∧ x.serial = y.serial ∧ x.now = y.now := by
  cases x; cases y; simp
instance : Ob WorldD where
  n := 6
  rep W0 H cs x := ∃ v_cells v_jobs v_todo v_log, cs = [v_cells, v_jobs, v_todo, v_log, .v (.int .i64 x.serial), .v (.int .i64 x.now)] ∧ SlR W0 H v_cells x.cells ∧ SlR W0 H v_jobs x.jobs ∧ SlR W0 H v_todo x.todo ∧ SlR W0 H v_log x.log ∧ inI64 x.serial ∧ inI64 x.now
  len := by rintro _ _ _ _ ⟨v_cells, v_jobs, v_todo, v_log, rfl, _⟩; rfl
  sub := by
    rintro _ _ _ _ _ hs ⟨v_cells, v_jobs, v_todo, v_log, rfl, f0, f1, f2, f3, f4, f5⟩
    exact ⟨v_cells, v_jobs, v_todo, v_log, rfl, f0.sub hs, f1.sub hs, f2.sub hs, f3.sub hs, f4, f5⟩
  leaf := by
    rintro _ _ _ _ ⟨v_cells, v_jobs, v_todo, v_log, rfl, f0, f1, f2, f3, f4, f5⟩
    simp only [List.all_cons, List.all_nil, leafA_int, leafA_bool, leafA_string, Bool.and_true, f0.leaf, f1.leaf, f2.leaf, f3.leaf]
  sz x := Ob.sz x.cells + Ob.sz x.jobs + Ob.sz x.todo + Ob.sz x.log
@[ext] structure ScriptD where
  todo : List QueueD
  picks : List Int
  deriving DecidableEq
theorem ScriptD.ext_iff' {x y : ScriptD} : x = y ↔ x.todo = y.todo ∧ x.picks = y.picks := by
  cases x; cases y; simp
instance : Ob ScriptD where
  n := 2
  rep W0 H cs x := ∃ v_todo v_picks, cs = [v_todo, v_picks] ∧ SlR W0 H v_todo x.todo ∧ SlR W0 H v_picks x.picks
  len := by rintro _ _ _ _ ⟨v_todo, v_picks, rfl, _⟩; rfl
  sub := by
    rintro _ _ _ _ _ hs ⟨v_todo, v_picks, rfl, f0, f1⟩
    exact ⟨v_todo, v_picks, rfl, f0.sub hs, f1.sub hs⟩
  leaf := by
    rintro _ _ _ _ ⟨v_todo, v_picks, rfl, f0, f1⟩
    simp only [List.all_cons, List.all_nil, leafA_int, leafA_bool, leafA_string, Bool.and_true, f0.leaf, f1.leaf]
  sz x := Ob.sz x.todo + Ob.sz x.picks
@[ext] structure ModelD where
  keys : List KRowD
  rows : List RowD
  deriving DecidableEq
theorem ModelD.ext_iff' {x y : ModelD} : x = y ↔ x.keys = y.keys ∧ x.rows = y.rows := by
  cases x; cases y; simp
instance : Ob ModelD where
  n := 2
  rep W0 H cs x := ∃ v_keys v_rows, cs = [v_keys, v_rows] ∧ SlR W0 H v_keys x.keys ∧ SlR W0 H v_rows x.rows
  len := by rintro _ _ _ _ ⟨v_keys, v_rows, rfl, _⟩; rfl
  sub := by
    rintro _ _ _ _ _ hs ⟨v_keys, v_rows, rfl, f0, f1⟩
    exact ⟨v_keys, v_rows, rfl, f0.sub hs, f1.sub hs⟩
  leaf := by
    rintro _ _ _ _ ⟨v_keys, v_rows, rfl, f0, f1⟩
    simp only [List.all_cons, List.all_nil, leafA_int, leafA_bool, leafA_string, Bool.and_true, f0.leaf, f1.leaf]
  sz x := Ob.sz x.keys + Ob.sz x.rows
end Go.Proofs.Ythcjolappblieaa.Aw
