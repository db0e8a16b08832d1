/- The program's records; values that own their memory; what is new; marks; copies. -/
import Derived.Test.YtipfnhfcoolhaaaGreatBB
namespace Go.Proofs.YtipfnhfcoolhaaaGreat.Aw
section
/-! The program's records, as Lean types, and how they lie in memory. Printed by gen.py. -/
open Go Go.RowKit
set_option linter.unusedVariables false
set_option linter.unusedSimpArgs false
@[ext] structure OpD where
  kind : Int
  key : ByteArray
  what : Int
  val : Int
  deriving DecidableEq
theorem OpD.ext_iff' {x y : OpD} : x = y ↔ x.kind = y.kind ∧ x.key = y.key ∧ x.what = y.what ∧ x.val = y.val := by
  cases x; cases y; simp
instance : Ob OpD where
  n := 4
  rep W0 H cs x := cs = [.v (.int .i64 x.kind), .v (.string x.key), .v (.int .i64 x.what), .v (.int .i64 x.val)] ∧ inI64 x.kind ∧ x.key.size ≤ big ∧ inI64 x.what ∧ inI64 x.val
  len := by rintro _ _ _ _ ⟨rfl, _⟩; rfl
  sub _ h := h
  leaf := by rintro _ _ _ _ ⟨rfl, _⟩; rfl
  sz x := x.key.size
@[ext] structure RowD where
  key : ByteArray
  kind : Int
  sum : Int
  set : Bool
  last : Int
  n : Int
  mn : Int
  mx : Int
  total : Int
  dropped : Int
  deriving DecidableEq
theorem RowD.ext_iff' {x y : RowD} : x = y ↔ x.key = y.key ∧ x.kind = y.kind ∧ x.sum = y.sum ∧ x.set = y.set ∧ x.last = y.last ∧ x.n = y.n ∧ x.mn = y.mn ∧ x.mx = y.mx ∧ x.total = y.total ∧ x.dropped = y.dropped := by
  cases x; cases y; simp
instance : Ob RowD where
  n := 10
  rep W0 H cs x := cs = [.v (.string x.key), .v (.int .i64 x.kind), .v (.int .i64 x.sum), .v (.bool x.set), .v (.int .i64 x.last), .v (.int .i64 x.n), .v (.int .i64 x.mn), .v (.int .i64 x.mx), .v (.int .i64 x.total), .v (.int .i64 x.dropped)] ∧ x.key.size ≤ big ∧ inI64 x.kind ∧ inI64 x.sum ∧ inI64 x.last ∧ inI64 x.n ∧ inI64 x.mn ∧ inI64 x.mx ∧ inI64 x.total ∧ inI64 x.dropped
  len := by rintro _ _ _ _ ⟨rfl, _⟩; rfl
  sub _ h := h
  leaf := by rintro _ _ _ _ ⟨rfl, _⟩; rfl
  sz x := x.key.size
@[ext] structure KRowD where
  key : ByteArray
  kind : Int
  deriving DecidableEq
theorem KRowD.ext_iff' {x y : KRowD} : x = y ↔ x.key = y.key ∧ x.kind = y.kind := by
  cases x; cases y; simp
instance : Ob KRowD where
  n := 2
  rep W0 H cs x := cs = [.v (.string x.key), .v (.int .i64 x.kind)] ∧ x.key.size ≤ big ∧ inI64 x.kind
  len := by rintro _ _ _ _ ⟨rfl, _⟩; rfl
  sub _ h := h
  leaf := by rintro _ _ _ _ ⟨rfl, _⟩; rfl
  sz x := x.key.size
@[ext] structure QueueD where
  ops : List OpD
  deriving DecidableEq
theorem QueueD.ext_iff' {x y : QueueD} : x = y ↔ x.ops = y.ops := by
  cases x; cases y; simp
instance : Ob QueueD where
  n := 1
  rep W0 H cs x := ∃ v_ops, cs = [v_ops] ∧ SlR W0 H v_ops x.ops
  len := by rintro _ _ _ _ ⟨v_ops, rfl, _⟩; rfl
  sub := by
    rintro _ _ _ _ _ hs ⟨v_ops, rfl, f0⟩
    exact ⟨v_ops, rfl, f0.sub hs⟩
  leaf := by
    rintro _ _ _ _ ⟨v_ops, rfl, f0⟩
    simp only [List.all_cons, List.all_nil, leafA_int, leafA_bool, leafA_string, Bool.and_true, f0.leaf]
  sz x := Ob.sz x.ops
@[ext] structure JobD where
  busy : Bool
  op : OpD
  serial : Int
  pc : Int
  k : Int
  slot : Int
  what : Int
  e : Int
  stamp : Int
  old : Int
  flips : Int
  steps : Int
  code : Int
  keys : List Int
  raw : List Int
  deriving DecidableEq
theorem JobD.ext_iff' {x y : JobD} : x = y ↔ x.busy = y.busy ∧ x.op = y.op ∧ x.serial = y.serial ∧ x.pc = y.pc ∧ x.k = y.k ∧ x.slot = y.slot ∧ x.what = y.what ∧ x.e = y.e ∧ x.stamp = y.stamp ∧ x.old = y.old ∧ x.flips = y.flips ∧ x.steps = y.steps ∧ x.code = y.code ∧ x.keys = y.keys ∧ x.raw = y.raw := by
  cases x; cases y; simp
instance : Ob JobD where
  n := 18
  rep W0 H cs x := ∃ v_keys v_raw, cs = [.v (.bool x.busy), .v (.int .i64 x.op.kind), .v (.string x.op.key), .v (.int .i64 x.op.what), .v (.int .i64 x.op.val), .v (.int .i64 x.serial), .v (.int .i64 x.pc), .v (.int .i64 x.k), .v (.int .i64 x.slot), .v (.int .i64 x.what), .v (.int .i64 x.e), .v (.int .i64 x.stamp), .v (.int .i64 x.old), .v (.int .i64 x.flips), .v (.int .i64 x.steps), .v (.int .i64 x.code), v_keys, v_raw] ∧ inI64 x.op.kind ∧ x.op.key.size ≤ big ∧ inI64 x.op.what ∧ inI64 x.op.val ∧ inI64 x.serial ∧ inI64 x.pc ∧ inI64 x.k ∧ inI64 x.slot ∧ inI64 x.what ∧ inI64 x.e ∧ inI64 x.stamp ∧ inI64 x.old ∧ inI64 x.flips ∧ inI64 x.steps ∧ inI64 x.code ∧ SlR W0 H v_keys x.keys ∧ SlR W0 H v_raw x.raw
  len := by rintro _ _ _ _ ⟨v_keys, v_raw, rfl, _⟩; rfl
  sub := by
    rintro _ _ _ _ _ hs ⟨v_keys, v_raw, rfl, f0, f1, f2, f3, f4, f5, f6, f7, f8, f9, f10, f11, f12, f13, f14, f15, f16⟩
    exact ⟨v_keys, v_raw, rfl, f0, f1, f2, f3, f4, f5, f6, f7, f8, f9, f10, f11, f12, f13, f14, f15.sub hs, f16.sub hs⟩
  leaf := by
    rintro _ _ _ _ ⟨v_keys, v_raw, rfl, f0, f1, f2, f3, f4, f5, f6, f7, f8, f9, f10, f11, f12, f13, f14, f15, f16⟩
    simp only [List.all_cons, List.all_nil, leafA_int, leafA_bool, leafA_string, Bool.and_true, f15.leaf, f16.leaf]
  sz x := Ob.sz x.op + Ob.sz x.keys + Ob.sz x.raw
theorem JobD.out {W0 : World} {H : AH} {cs : List AV} {x : JobD} (h : Ob.rep W0 H cs x) : ∃ v_keys v_raw, cs = [.v (.bool x.busy), .v (.int .i64 x.op.kind), .v (.string x.op.key), .v (.int .i64 x.op.what), .v (.int .i64 x.op.val), .v (.int .i64 x.serial), .v (.int .i64 x.pc), .v (.int .i64 x.k), .v (.int .i64 x.slot), .v (.int .i64 x.what), .v (.int .i64 x.e), .v (.int .i64 x.stamp), .v (.int .i64 x.old), .v (.int .i64 x.flips), .v (.int .i64 x.steps), .v (.int .i64 x.code), v_keys, v_raw] ∧ SlR W0 H v_keys x.keys ∧ SlR W0 H v_raw x.raw ∧ inI64 x.op.kind ∧ x.op.key.size ≤ big ∧ inI64 x.op.what ∧ inI64 x.op.val ∧ inI64 x.serial ∧ inI64 x.pc ∧ inI64 x.k ∧ inI64 x.slot ∧ inI64 x.what ∧ inI64 x.e ∧ inI64 x.stamp ∧ inI64 x.old ∧ inI64 x.flips ∧ inI64 x.steps ∧ inI64 x.code := by
  obtain ⟨v_keys, v_raw, h, f0, f1, f2, f3, f4, f5, f6, f7, f8, f9, f10, f11, f12, f13, f14, f15, f16⟩ := h
  exact ⟨v_keys, v_raw, h, f15, f16, f0, f1, f2, f3, f4, f5, f6, f7, f8, f9, f10, f11, f12, f13, f14⟩
@[ext] structure EvD where
  kind : Int
  who : Int
  serial : Int
  tm : Int
  op : OpD
  code : Int
  win : Int
  steps : Int
  flips : Int
  rows : List RowD
  deriving DecidableEq
theorem EvD.ext_iff' {x y : EvD} : x = y ↔ x.kind = y.kind ∧ x.who = y.who ∧ x.serial = y.serial ∧ x.tm = y.tm ∧ x.op = y.op ∧ x.code = y.code ∧ x.win = y.win ∧ x.steps = y.steps ∧ x.flips = y.flips ∧ x.rows = y.rows := by
  cases x; cases y; simp
instance : Ob EvD where
  n := 13
  rep W0 H cs x := ∃ v_rows, cs = [.v (.int .i64 x.kind), .v (.int .i64 x.who), .v (.int .i64 x.serial), .v (.int .i64 x.tm), .v (.int .i64 x.op.kind), .v (.string x.op.key), .v (.int .i64 x.op.what), .v (.int .i64 x.op.val), .v (.int .i64 x.code), .v (.int .i64 x.win), .v (.int .i64 x.steps), .v (.int .i64 x.flips), v_rows] ∧ inI64 x.kind ∧ inI64 x.who ∧ inI64 x.serial ∧ inI64 x.tm ∧ inI64 x.op.kind ∧ x.op.key.size ≤ big ∧ inI64 x.op.what ∧ inI64 x.op.val ∧ inI64 x.code ∧ inI64 x.win ∧ inI64 x.steps ∧ inI64 x.flips ∧ SlR W0 H v_rows x.rows
  len := by rintro _ _ _ _ ⟨v_rows, rfl, _⟩; rfl
  sub := by
    rintro _ _ _ _ _ hs ⟨v_rows, rfl, f0, f1, f2, f3, f4, f5, f6, f7, f8, f9, f10, f11, f12⟩
    exact ⟨v_rows, rfl, f0, f1, f2, f3, f4, f5, f6, f7, f8, f9, f10, f11, f12.sub hs⟩
  leaf := by
    rintro _ _ _ _ ⟨v_rows, rfl, f0, f1, f2, f3, f4, f5, f6, f7, f8, f9, f10, f11, f12⟩
    simp only [List.all_cons, List.all_nil, leafA_int, leafA_bool, leafA_string, Bool.and_true, f12.leaf]
  sz x := Ob.sz x.op + Ob.sz x.rows
theorem EvD.out {W0 : World} {H : AH} {cs : List AV} {x : EvD} (h : Ob.rep W0 H cs x) : ∃ v_rows, cs = [.v (.int .i64 x.kind), .v (.int .i64 x.who), .v (.int .i64 x.serial), .v (.int .i64 x.tm), .v (.int .i64 x.op.kind), .v (.string x.op.key), .v (.int .i64 x.op.what), .v (.int .i64 x.op.val), .v (.int .i64 x.code), .v (.int .i64 x.win), .v (.int .i64 x.steps), .v (.int .i64 x.flips), v_rows] ∧ SlR W0 H v_rows x.rows ∧ inI64 x.kind ∧ inI64 x.who ∧ inI64 x.serial ∧ inI64 x.tm ∧ inI64 x.op.kind ∧ x.op.key.size ≤ big ∧ inI64 x.op.what ∧ inI64 x.op.val ∧ inI64 x.code ∧ inI64 x.win ∧ inI64 x.steps ∧ inI64 x.flips := by
  obtain ⟨v_rows, h, f0, f1, f2, f3, f4, f5, f6, f7, f8, f9, f10, f11, f12⟩ := h
  exact ⟨v_rows, h, f12, f0, f1, f2, f3, f4, f5, f6, f7, f8, f9, f10, f11⟩
@[ext] structure WorldD where
  cells : List Int
  jobs : List JobD
  todo : List QueueD
  log : List EvD
  serial : Int
  now : Int
  deriving DecidableEq
theorem WorldD.ext_iff' {x y : WorldD} : x = y ↔ x.cells = y.cells ∧ x.jobs = y.jobs ∧ x.todo = y.todo ∧ x.log = y.log ∧ x.serial = y.serial ∧ x.now = y.now := by
  cases x; cases y; simp
instance : Ob WorldD where
  n := 6
  rep W0 H cs x := ∃ v_cells v_jobs v_todo v_log, cs = [v_cells, v_jobs, v_todo, v_log, .v (.int .i64 x.serial), .v (.int .i64 x.now)] ∧ SlR W0 H v_cells x.cells ∧ SlR W0 H v_jobs x.jobs ∧ SlR W0 H v_todo x.todo ∧ SlR W0 H v_log x.log ∧ inI64 x.serial ∧ inI64 x.now
  len := by rintro _ _ _ _ ⟨v_cells, v_jobs, v_todo, v_log, rfl, _⟩; rfl
  sub := by
    rintro _ _ _ _ _ hs ⟨v_cells, v_jobs, v_todo, v_log, rfl, f0, f1, f2, f3, f4, f5⟩
    exact ⟨v_cells, v_jobs, v_todo, v_log, rfl, f0.sub hs, f1.sub hs, f2.sub hs, f3.sub hs, f4, f5⟩
  leaf := by
    rintro _ _ _ _ ⟨v_cells, v_jobs, v_todo, v_log, rfl, f0, f1, f2, f3, f4, f5⟩
    simp only [List.all_cons, List.all_nil, leafA_int, leafA_bool, leafA_string, Bool.and_true, f0.leaf, f1.leaf, f2.leaf, f3.leaf]
  sz x := Ob.sz x.cells + Ob.sz x.jobs + Ob.sz x.todo + Ob.sz x.log
@[ext] structure ScriptD where
  todo : List QueueD
  picks : List Int
  deriving DecidableEq
theorem ScriptD.ext_iff' {x y : ScriptD} : x = y ↔ x.todo = y.todo ∧ x.picks = y.picks := by
  cases x; cases y; simp
instance : Ob ScriptD where
  n := 2
  rep W0 H cs x := ∃ v_todo v_picks, cs = [v_todo, v_picks] ∧ SlR W0 H v_todo x.todo ∧ SlR W0 H v_picks x.picks
  len := by rintro _ _ _ _ ⟨v_todo, v_picks, rfl, _⟩; rfl
  sub := by
    rintro _ _ _ _ _ hs ⟨v_todo, v_picks, rfl, f0, f1⟩
    exact ⟨v_todo, v_picks, rfl, f0.sub hs, f1.sub hs⟩
  leaf := by
    rintro _ _ _ _ ⟨v_todo, v_picks, rfl, f0, f1⟩
    simp only [List.all_cons, List.all_nil, leafA_int, leafA_bool, leafA_string, Bool.and_true, f0.leaf, f1.leaf]
  sz x := Ob.sz x.todo + Ob.sz x.picks
@[ext] structure ModelD where
  keys : List KRowD
  rows : List RowD
  deriving DecidableEq
theorem ModelD.ext_iff' {x y : ModelD} : x = y ↔ x.keys = y.keys ∧ x.rows = y.rows := by
  cases x; cases y; simp
instance : Ob ModelD where
  n := 2
  rep W0 H cs x := ∃ v_keys v_rows, cs = [v_keys, v_rows] ∧ SlR W0 H v_keys x.keys ∧ SlR W0 H v_rows x.rows
  len := by rintro _ _ _ _ ⟨v_keys, v_rows, rfl, _⟩; rfl
  sub := by
    rintro _ _ _ _ _ hs ⟨v_keys, v_rows, rfl, f0, f1⟩
    exact ⟨v_keys, v_rows, rfl, f0.sub hs, f1.sub hs⟩
  leaf := by
    rintro _ _ _ _ ⟨v_keys, v_rows, rfl, f0, f1⟩
    simp only [List.all_cons, List.all_nil, leafA_int, leafA_bool, leafA_string, Bool.and_true, f0.leaf, f1.leaf]
  sz x := Ob.sz x.keys + Ob.sz x.rows
end
section
/-! The calculus 'Aw' at work, part 9: tools for the laws themselves. -/
open Go Go.RowKit
set_option linter.unusedVariables false
set_option linter.unusedSectionVars false
variable {P : Program} {W0 : World}
theorem ACallK.szk {K : Kt} {g : FuncId} {xs : List AV} {H : AH} {left : Int} {n : Nat} (h : ACalls P W0 g xs H (fun v H' => v = .v (.int .i64 (szLeft left n)) ∧ H' = H)) (h1 : left < n → K.k (.v (.int .i64 (-1))) H) (h2 : (n : Int) ≤ left → K.k (.v (.int .i64 (left - n))) H) : ACallK (K := K) P W0 g xs H := by
  refine ACallK.eq h ?_
  unfold szLeft
  split
  · exact h2 (by assumption)
  · exact h1 (by omega)
theorem obsz_int (xs : List Int) : Ob.sz xs = xs.length := by
  show xs.length + (xs.map Ob.sz).sum = xs.length
  have : ∀ l : List Int, (l.map Ob.sz).sum = 0 := fun l => by induction l <;> simp_all [Ob.sz]
  rw [this]; rfl
theorem acond_decF {p : Prop} {d : Decidable p} {K : K2} (h : ¬ p) (hb : K.b) : acond (K := K) (.v (.bool (@decide p d))) := acond_dec (fun k => absurd k h) fun _ => hb
theorem acond_decT {p : Prop} {d : Decidable p} {K : K2} (h : p) (ha : K.a) : acond (K := K) (.v (.bool (@decide p d))) := acond_dec (fun _ => ha) fun k => absurd h k
theorem acond_ndecF {p : Prop} {d : Decidable p} {K : K2} (h : ¬ p) (ha : K.a) : acond (K := K) (.v (.bool (!(@decide p d)))) := acond_ndec (fun _ => ha) fun k => absurd k h
theorem acond_ndecT {p : Prop} {d : Decidable p} {K : K2} (h : p) (hb : K.b) : acond (K := K) (.v (.bool (!(@decide p d)))) := acond_ndec (fun k => absurd h k) fun _ => hb
theorem Ob.sub' {α : Type} [Ob α] {H H' : AH} {cs : List AV} {x : α} (h : Ob.rep W0 H cs x) (hs : Sub H H' := by repeat (first | exact Sub.refl _ | assumption | refine Sub.new (by assumption) ?_ _ _ | refine Sub.kill_new (by assumption) ?_ _ _ | refine Sub.trans ?_ (by assumption))) : Ob.rep W0 H' cs x := Ob.sub hs h
theorem SlR.sub' {α : Type} [Ob α] {H H' : AH} {v : AV} {x : List α} (h : SlR W0 H v x) (hs : Sub H H' := by repeat (first | exact Sub.refl _ | assumption | refine Sub.new (by assumption) ?_ _ _ | refine Sub.kill_new (by assumption) ?_ _ _ | refine Sub.trans ?_ (by assumption))) : SlR W0 H' v x := h.sub hs
theorem ACalls.cl {g : FuncId} {xs : List AV} {H : AH} {R : AV → AH → Prop} (h : ACalls P W0 g xs H R) : ACalls P W0 g xs H (fun v H' => R v H' ∧ H'.closed) :=
  ⟨h.1, fun φ W ys hI hv => (h.2 φ W ys hI hv).mono fun e W' ⟨y, v, H', φ', h1, h2, h3, h4, h5⟩ => ⟨y, v, H', φ', h1, h2, h3, h4, h5, h3.closed⟩⟩
/-- What a copying helper of the laws hands back, told without its freshness. -/
theorem toK {α : Type} [Ob α] {K : Kt} {g : FuncId} {xs : List AV} {H : AH} {x : α} (h : ACalls P W0 g xs H (fun v H' => Sub H H' ∧ ∃ c, v = .agg c ∧ Ob.rep W0 (H'.above H.nxt) c x)) (k : ∀ H' c, Sub H H' → H'.wf → Ob.rep W0 H' c x → K.k (.agg c) H') : ACallK (K := K) P W0 g xs H :=
  ACallK.of h.cl (by rintro _ H' ⟨⟨hs, c, rfl, hr⟩, hc⟩; exact k H' c hs hc.1 (Ob.fresh hr))
theorem toSK {α : Type} [Ob α] {K : Kt} {g : FuncId} {ys : List AV} {H : AH} {x : List α} (h : ACalls P W0 g ys H (fun v H' => Sub H H' ∧ SlR W0 (H'.above H.nxt) v x)) (k : ∀ H' v, Sub H H' → H'.wf → SlR W0 H' v x → K.k v H') : ACallK (K := K) P W0 g ys H :=
  ACallK.of h.cl (by rintro v H' ⟨⟨hs, hr⟩, hc⟩; exact k H' v hs hc.1 (hr.sub (above_all _ _)))
end
section
/-! The calculus 'Aw' at work, part 10: values that own their memory. -/
open Go Go.RowKit
set_option linter.unusedVariables false
set_option linter.unusedSimpArgs false
set_option linter.unusedSectionVars false
variable {P : Program} {W0 : World}
/-- A value with the blocks that it leads to, each told as often as it is met. -/
class Own (α : Type) [Ob α] where
  own : AH → List Nat → List AV → α → Prop
  rep : ∀ {W0 H S cs x}, own H S cs x → Ob.rep W0 H cs x
  eq : ∀ {H H' S cs x}, own H S cs x → (∀ b ∈ S, H'.blk b = H.blk b) → own H' S cs x
  isin : ∀ {H S cs x}, own H S cs x → ∀ b ∈ S, (H.blk b).isSome = true
instance : Own Int where
  own H S cs x := S = [] ∧ cs = [.v (.int .i64 x)] ∧ inI64 x
  rep := by rintro _ _ _ _ _ ⟨_, h⟩; exact h
  eq := by rintro _ _ _ _ _ h _; exact h
  isin := by rintro _ _ _ _ ⟨rfl, _⟩ b hb; cases hb
instance : Own Bool where
  own H S cs x := S = [] ∧ cs = [.v (.bool x)]
  rep := by rintro _ _ _ _ _ ⟨_, h⟩; exact h
  eq := by rintro _ _ _ _ _ h _; exact h
  isin := by rintro _ _ _ _ ⟨rfl, _⟩ b hb; cases hb
instance : Own ByteArray where
  own H S cs x := S = [] ∧ cs = [.v (.string x)] ∧ x.size ≤ big
  rep := by rintro _ _ _ _ _ ⟨_, h⟩; exact h
  eq := by rintro _ _ _ _ _ h _; exact h
  isin := by rintro _ _ _ _ ⟨rfl, _⟩ b hb; cases hb
section
variable {α : Type} [Ob α] [Own α]
inductive Owns (H : AH) : List Nat → List AV → List α → Prop
  | nil : Owns H [] [] []
  | cons {S T : List Nat} {c cs : List AV} {x : α} {xs : List α} : Own.own H S c x → Owns H T cs xs → Owns H (S ++ T) (c ++ cs) (x :: xs)
theorem Owns.reps {H : AH} {S : List Nat} {cs : List AV} {xs : List α} (h : Owns H S cs xs) : Reps W0 H cs xs := by
  induction h with
  | nil => exact .nil
  | cons h _ ih => exact .cons (Own.rep h) ih
theorem Owns.eq {H H' : AH} {S : List Nat} {cs : List AV} {xs : List α} (h : Owns H S cs xs) (k : ∀ b ∈ S, H'.blk b = H.blk b) : Owns H' S cs xs := by
  induction h with
  | nil => exact .nil
  | cons h _ ih => exact .cons (Own.eq h fun b hb => k b (List.mem_append_left _ hb)) (ih fun b hb => k b (List.mem_append_right _ hb))
theorem Owns.isin {H : AH} {S : List Nat} {cs : List AV} {xs : List α} (h : Owns H S cs xs) : ∀ b ∈ S, (H.blk b).isSome = true := by
  induction h with
  | nil => intro b hb; cases hb
  | cons h _ ih => intro b hb; rcases List.mem_append.1 hb with hb | hb; exact Own.isin h b hb; exact ih b hb
theorem Owns.len {H : AH} {S : List Nat} {cs : List AV} {xs : List α} (h : Owns H S cs xs) : cs.length = xs.length * Ob.n α := (h.reps (W0 := default)).len
theorem Owns.append {H : AH} {S T : List Nat} {cs ds : List AV} {xs ys : List α} (h : Owns H S cs xs) (k : Owns H T ds ys) : Owns H (S ++ T) (cs ++ ds) (xs ++ ys) := by
  induction h with
  | nil => exact k
  | cons h _ ih => rw [List.append_assoc, List.append_assoc]; exact .cons h ih
theorem Owns.one {H : AH} {S : List Nat} {c : List AV} {x : α} (h : Own.own H S c x) : Owns H S c [x] := by
  have := Owns.cons h (.nil (H := H))
  rwa [List.append_nil, List.append_nil] at this
/-- One element, taken out. -/
theorem Owns.get {H : AH} {S : List Nat} {cs : List AV} {xs : List α} (h : Owns H S cs xs) (i : Nat) (hi : i < xs.length) : ∃ S1 S2 S3, S = S1 ++ (S2 ++ S3) ∧ Owns H S1 (cs.take (i * Ob.n α)) (xs.take i) ∧ Own.own H S2 ((cs.drop (i * Ob.n α)).take (Ob.n α)) xs[i] ∧ Owns H S3 (cs.drop ((i + 1) * Ob.n α)) (xs.drop (i + 1)) := by
  induction h generalizing i with
  | nil => simp at hi
  | @cons S T c cs x xs h hr ih =>
    have hl : c.length = Ob.n α := Ob.len (Own.rep (W0 := default) h)
    cases i with
    | zero =>
      refine ⟨[], S, T, rfl, ?_, ?_, ?_⟩
      · simp; exact .nil
      · rw [Nat.zero_mul, List.drop_zero, ← hl, List.take_left]; exact h
      · rw [Nat.zero_add, Nat.one_mul, ← hl, List.drop_left]; simpa using hr
    | succ i =>
      obtain ⟨S1, S2, S3, e, h1, h2, h3⟩ := ih i (by simpa using hi)
      refine ⟨S ++ S1, S2, S3, by rw [e, List.append_assoc], ?_, ?_, ?_⟩
      · rw [Nat.add_mul, Nat.one_mul, Nat.add_comm (i * Ob.n α), ← hl, List.take_length_add_append, List.take_succ_cons, hl]; exact .cons h h1
      · rw [Nat.add_mul, Nat.one_mul, Nat.add_comm (i * Ob.n α), ← List.drop_drop, ← hl, List.drop_left, hl]; exact h2
      · rw [Nat.add_mul, Nat.one_mul, Nat.add_comm ((i + 1) * Ob.n α), ← List.drop_drop, ← hl, List.drop_left, hl, List.drop_succ_cons]; exact h3
/-- A slice that owns its block. -/
def OwnS (H : AH) (S : List Nat) (v : AV) (xs : List α) : Prop :=
  (v = .v (.slice none 0 0) ∧ xs = [] ∧ S = []) ∨ ∃ b o cs T, v = .sl b o xs.length ∧ H.blk b = some ⟨cs, Ob.n α⟩ ∧ o + xs.length * Ob.n α ≤ cs.length ∧ xs.length ≤ big ∧ S = b :: T ∧ Owns H T ((cs.drop o).take (xs.length * Ob.n α)) xs
theorem OwnS.slr {H : AH} {S : List Nat} {v : AV} {xs : List α} (h : OwnS H S v xs) : SlR W0 H v xs := by
  rcases h with ⟨rfl, rfl, rfl⟩ | ⟨b, o, cs, T, rfl, hB, ho, hb, rfl, hO⟩
  · exact ⟨rfl, by simp [big], [], by simp [slCells], .nil⟩
  · refine ⟨rfl, hb, _, ?_, hO.reps⟩
    simp only [slCells, Nat.le_refl, if_true, hB, Option.bind_some, true_and]
    rw [if_pos ho]
theorem OwnS.eq {H H' : AH} {S : List Nat} {v : AV} {xs : List α} (h : OwnS H S v xs) (k : ∀ b ∈ S, H'.blk b = H.blk b) : OwnS H' S v xs := by
  rcases h with ⟨hv, rfl, rfl⟩ | ⟨b, o, cs, T, rfl, hB, ho, hb, rfl, hO⟩
  · exact .inl ⟨hv, rfl, rfl⟩
  · exact .inr ⟨b, o, cs, T, rfl, by rw [k b (List.mem_cons_self ..)]; exact hB, ho, hb, rfl, hO.eq fun x hx => k x (List.mem_cons_of_mem _ hx)⟩
theorem OwnS.isin {H : AH} {S : List Nat} {v : AV} {xs : List α} (h : OwnS H S v xs) : ∀ b ∈ S, (H.blk b).isSome = true := by
  rcases h with ⟨-, rfl, rfl⟩ | ⟨b, o, cs, T, rfl, hB, ho, hb, rfl, hO⟩
  · intro b hb; cases hb
  · intro x hx
    rcases List.mem_cons.1 hx with rfl | hx
    · simp [hB]
    · exact hO.isin x hx
instance : Own (List α) where
  own H S cs xs := ∃ v, cs = [v] ∧ OwnS H S v xs
  rep := by rintro _ _ _ _ _ ⟨v, rfl, h⟩; exact ⟨v, rfl, h.slr⟩
  eq := by rintro _ _ _ _ _ ⟨v, rfl, h⟩ k; exact ⟨v, rfl, h.eq k⟩
  isin := by rintro _ _ _ _ ⟨v, rfl, h⟩; exact h.isin
end
/-- Blocks that are new, each once. -/
def Fresh (n : Nat) (S : List Nat) : Prop := S.Nodup ∧ ∀ b ∈ S, n ≤ b
theorem Fresh.nil (n : Nat) : Fresh n [] := ⟨List.nodup_nil, fun _ h => by cases h⟩
theorem Fresh.le {m n : Nat} {S : List Nat} (h : Fresh n S) (k : m ≤ n) : Fresh m S := ⟨h.1, fun b hb => Nat.le_trans k (h.2 b hb)⟩
/-- What was there stays behind blocks that are new. -/
theorem Sub.keep {H H' : AH} (hs : Sub H H') {S : List Nat} (h : ∀ b ∈ S, (H.blk b).isSome = true) : ∀ b ∈ S, H'.blk b = H.blk b := fun b hb => hs.blk_eq (h b hb)
theorem AH.wf.lt' {H : AH} (hw : H.wf) {b : Nat} (h : (H.blk b).isSome = true) : b < H.nxt := by
  obtain ⟨B, hB⟩ := Option.isSome_iff_exists.1 h
  exact hw.lt hB
theorem Fresh.append {n m : Nat} {S T : List Nat} (h : Fresh n S) (k : Fresh m T) (hS : ∀ b ∈ S, b < m) (hnm : n ≤ m) : Fresh n (S ++ T) := by
  refine ⟨List.nodup_append.2 ⟨h.1, k.1, fun a ha b hb => ?_⟩, fun b hb => ?_⟩
  · have := hS a ha; have := k.2 b hb; omega
  · rcases List.mem_append.1 hb with hb | hb
    · exact h.2 b hb
    · have := k.2 b hb; omega
theorem Fresh.cons {n b : Nat} {T : List Nat} (k : Fresh n T) (hb : n ≤ b) (hT : b ∉ T) : Fresh n (b :: T) := by
  refine ⟨List.nodup_cons.2 ⟨hT, k.1⟩, fun x hx => ?_⟩
  rcases List.mem_cons.1 hx with rfl | hx
  · exact hb
  · exact k.2 x hx
end
section
/-! The calculus 'Aw' at work, part 11: slices whose capacity is told; slices that do not overlap. -/
open Go Go.RowKit
set_option linter.unusedVariables false
set_option linter.unusedSimpArgs false
set_option linter.unusedSectionVars false
variable {P : Program} {W0 : World}
/-- Two slices of two blocks of ours do not overlap. -/
theorem over_ext {f : FuncId} {fn : Func} (hf : P.funcs[f]? = some fn) (hname : (fn.name == "runtime.NumGoroutine") = false) (hb : fn.body.isNone = true) (hn : Extern.findNext fn = none) (he : Extern.find fn = some (Extern.SlicesOverlaps.overlaps fn.params fn.resultTypes)) {t el : TypeId} (ht : fn.params[0]? = some t) (hel : elt P t = some el) {i : TyI} (hi : tyi P el = some i)
    {a1 a2 : AV} {H : AH} {b o n b' o' n' : Nat} {B B' : Blk} (h1 : slBlk a1 = some (b, o, n)) (h2 : slBlk a2 = some (b', o', n')) (hne : b ≠ b') (hB : H.blk b = some B) (hB' : H.blk b' = some B') : AExt P W0 f [a1, a2] H (fun v H' => v = .v (.bool false) ∧ H' = H) := by
  intro φ W ys hI hv
  cases hv with
  | cons v1 hv =>
    cases hv with
    | cons v2 hv =>
      cases hv
      have v1 := slBlk_ok v1 h1
      have v2 := slBlk_ok v2 h2
      obtain ⟨d, j, z, hd, hj, hz, rfl⟩ := tyi_run hi
      obtain ⟨p, hp, g1, g2, g3, C, et, hC, g4, g5⟩ := hI.blks b B hB
      obtain ⟨p', hp', g1', g2', g3', C', et', hC', g4', g5'⟩ := hI.blks b' B' hB'
      have hg : p.g ≠ p'.g := fun h => hne (hI.inj b b' p p' (by rw [hB]; rfl) (by rw [hB']; rfl) hp hp' h)
      have hbn : ¬ fn.body = none → False := fun h => by cases hbb : fn.body <;> simp_all
      have hnm : ¬ fn.name = "runtime.NumGoroutine" := by simpa using hname
      have hcall : ∀ xs : Array Value, (callFunc f xs).run P W = ((Extern.SlicesOverlaps.overlaps fn.params fn.resultTypes xs).run P W).andThen fun v w => .ok (.value v) w := by
        intro xs
        have hbn2 : fn.body = none := by cases hbb : fn.body <;> simp_all
        simp [callFunc, hf, hnm, hbn2, hn, he]
      cases v1 with
      | sl q1 q2 q3 =>
        rename_i c ad p1
        rw [hp] at q1; cases q1
        cases v2 with
        | sl r1 r2 r3 =>
          rename_i c' ad' p2
          rw [hp'] at r1; cases r1
          refine ⟨.bool false, W, ?_, _, H, φ, .v _, hI, Ext.refl _, rfl, rfl⟩
          rw [hcall]
          have hrun : (Extern.SlicesOverlaps.overlaps fn.params fn.resultTypes #[.slice (some ad) n c, .slice (some ad') n' c']).run P W = .ok (.bool false) W := by
            conv => lhs; arg 2; whnf
            by_cases hz : n = 0 ∨ n' = 0 ∨ j.size = 0
            · simp [ht, run_underlying (elt_run hel), sizeOf_run hj, hz]
            · have hn0 : ¬ n = 0 := fun h => hz (.inl h)
              have hn0' : ¬ n' = 0 := fun h => hz (.inr (.inl h))
              have hs0 : ¬ j.size = 0 := fun h => hz (.inr (.inr h))
              obtain ⟨rfl, -⟩ := q3.resolve_left (by omega)
              obtain ⟨rfl, -⟩ := r3.resolve_left (by omega)
              simp [ht, run_underlying (elt_run hel), sizeOf_run hj, hn0, hn0', hs0, hg, World.frozen?, hC, hC', noView, viewAt, World.shape?, mayBeOne, stringish]
          rw [hrun]
          rfl
theorem refl_set {H : AH} {b : Nat} {B : Blk} (h : H.blk b = some B) : H.set b B = H := by
  cases H
  simp only [AH.set, AH.mk.injEq, and_true]
  funext x
  split
  · subst_vars; exact h.symm
  · rfl
/-- A slice that is handed over: its capacity may be told, and the block's cells up to there. -/
theorem acalls_cap {f : FuncId} {rest : List AV} {H : AH} {b o n s : Nat} {cs : List AV} {R : AV → AH → Prop} (hc : callable P f = true) (hB : H.blk b = some ⟨cs, s⟩) (ho : o + n * s ≤ cs.length)
    (h : ∀ c k, n ≤ c → o + c * s ≤ cs.length + k → ACalls P W0 f (.slc b o n c :: rest) (H.set b ⟨cs ++ List.replicate k .dead, s⟩) R) : ACalls P W0 f (.sl b o n :: rest) H R := by
  refine ⟨hc, fun φ W ys hI hv => ?_⟩
  cases hv with
  | cons v1 hv =>
    obtain ⟨p, hp, g1, g2, g3, C, et, hC, g4, g5⟩ := hI.blks b _ hB
    cases v1 with
    | sl q1 q2 q3 =>
      rename_i c ad p1
      rw [hp] at q1; cases q1
      simp only at g2 g3
      rcases q3 with rfl | ⟨rfl, q3⟩
      · have hn : n = 0 := by omega
        subst hn
        have h0 := h 0 0 (Nat.le_refl _) (by omega)
        simp only [List.replicate_zero, List.append_nil] at h0
        rw [refl_set hB] at h0
        exact h0.2 φ W _ hI (.cons (.slc hp (Nat.le_refl _) (.inl rfl)) hv)
      · rw [← g2] at q3
        have h0 := h c (p.lim - cs.length) q2 (by omega)
        exact h0.2 φ W _ (hI.dead hB hp _ (by simp only; omega)) (.cons (.slc hp q2 (.inr ⟨rfl, by rw [← g2]; exact q3⟩)) hv)
/-- A value that says less. -/
def Wk (v v' : AV) : Prop := ∀ φ y, VR φ v y → VR φ v' y
theorem Wk.refl (v : AV) : Wk v v := fun _ _ h => h
theorem Wk.slc (b o n c : Nat) : Wk (.slc b o n c) (.sl b o n) := fun _ _ h => h.weak
theorem ACalls.wk {f : FuncId} {args : List AV} {H : AH} {R R' : AV → AH → Prop} (h : ACalls P W0 f args H R) (k : ∀ v H', R v H' → ∃ v', Wk v v' ∧ R' v' H') : ACalls P W0 f args H R' :=
  ⟨h.1, fun φ W ys hI hv => (h.2 φ W ys hI hv).mono fun e W' ⟨y, v, H', φ', h1, h2, h3, h4, h5⟩ => by
    obtain ⟨v', k1, k2⟩ := k v H' h5
    exact ⟨y, v', H', φ', h1, k1 _ _ h2, h3, h4, k2⟩⟩
/-! ### Parts of slices -/
def aslE (W0 : World) (i : Option TyI) (x : AV) (lo hi : Option AV) (H : AH) [K : Kt] : Prop := match i with
  | some i => aslc W0 H i.size x lo hi
  | none => False
section
variable {α : Type} [Ob α]
theorem asl_sl {K : Kt} {H H0 : AH} {t : TypeId} {v : AV} {xs : List α} {lo hi : Option AV} (hv : SlR W0 H0 v xs) (k : aslE (K := K) W0 ((elt P t).bind (tyi P)) v lo hi H) : asl (K := K) P W0 t v lo hi H := by
  have h1 := hv.1
  cases v with
  | v x =>
    cases x with
    | string s => cases h1
    | _ => exact k
  | _ => exact k
/-- The part of a slice from the l-th to the h-th element. -/
def slA (s : Nat) : AV → Nat → Nat → AV
  | .sl b o n, l, h => .sl b (o + l * s) (h - l)
  | .sl0, _, _ => .sl0
  | .v (.slice a n c), l, h => .v (.slice (if c = l then a else a.map (·.add (l * s))) (h - l) (c - l))
  | _, _, _ => .dead
theorem aslE_sl {K : Kt} {H H0 : AH} {v : AV} {xs : List α} {lo hi : Option AV} {l h : Int} {g : Bool} {s b : Nat} {z : List Value} (hv : SlR W0 H0 v xs) (k : SlR W0 H0 (slA s v l.toNat h.toNat) ((xs.drop l.toNat).take (h.toNat - l.toNat)) → K.k (slA s v l.toNat h.toNat) H)
    (hl : boundA 0 lo = some l := by rfl) (hh : boundA xs.length hi = some h := by rfl) (h0 : 0 ≤ l := by omega) (h1 : l ≤ h := by omega) (h2 : h ≤ xs.length := by omega)
    (hs : Sub H0 H := by repeat (first | exact Sub.refl _ | assumption | refine Sub.new (by assumption) ?_ _ _ | refine Sub.kill_new (by assumption) ?_ _ _ | refine Sub.trans ?_ (by assumption))) (hz : s = Ob.n α := by rfl) : aslE (K := K) W0 (some ⟨g, s, b, z⟩) v lo hi H := by
  subst hz
  obtain ⟨e1, e2, cs, e3, e4⟩ := hv
  have hlen : ((xs.drop l.toNat).take (h.toNat - l.toNat)).length = h.toNat - l.toNat := by simp; omega
  have hb2 : ((xs.drop l.toNat).take (h.toNat - l.toNat)).length ≤ big := by rw [hlen]; omega
  have hrep := (e4.drop l.toNat).take (h.toNat - l.toNat)
  have hcl := e4.len
  have hle : h.toNat * Ob.n α ≤ xs.length * Ob.n α := Nat.mul_le_mul_right _ (by omega)
  have hsub : (h.toNat - l.toNat) * Ob.n α = h.toNat * Ob.n α - l.toNat * Ob.n α := Nat.sub_mul ..
  have hlh : l.toNat * Ob.n α ≤ h.toNat * Ob.n α := Nat.mul_le_mul_right _ (by omega)
  cases v with
  | sl b' o n =>
    simp only [slN, Option.some.injEq] at e1
    subst e1
    simp only [slCells, Nat.le_refl, if_true] at e3
    obtain ⟨B, hB, e3⟩ := Option.bind_eq_some_iff.1 e3
    split at e3
    · rename_i hB2
      simp only [Option.some.injEq] at e3
      simp only [aslE, aslc, aslice, hs.2 _ _ hB, hl, hh]
      simp only [slA] at k
      refine ⟨hB2.1, h0, h1, h2, k ⟨by simp only [slN, hlen], hb2, _, ?_, hrep⟩⟩
      simp only [slCells, hlen, Nat.le_refl, if_true, hB, Option.bind_some, hB2.1, true_and]
      rw [if_pos (by omega), ← e3]
      congr 1
      rw [List.drop_take, List.take_take, List.drop_drop]
      congr 1
      omega
    · cases e3
  | v x =>
    cases x with
    | slice a n c =>
      simp only [slN, Option.some.injEq] at e1
      subst e1
      cases a with
      | none =>
        simp only [slCells] at e3
        split at e3
        · rename_i hz
          simp only [aslE, aslc, aslice, hl, hh]
          refine ⟨h0, h1, h2, by omega, ?_⟩
          have hx : xs = [] := List.eq_nil_of_length_eq_zero hz
          subst hx
          simp only [slA, Option.map_none, ite_self] at k ⊢
          refine k ⟨by simp only [slN, hlen], hb2, [], ?_, by simp; exact .nil⟩
          simp [slCells]
        · cases e3
      | some a =>
        simp only [slCells] at e3
        split at e3
        · rename_i hnc
          simp only [Option.map_eq_some_iff] at e3
          obtain ⟨us, hu, rfl⟩ := e3
          simp only [aslE, aslc, aslice, hl, hh]
          refine ⟨h0, h1, h2, hnc.2, ?_⟩
          have hul : us.length = xs.length * Ob.n α := (rdOld_iff.1 hu).1
          by_cases hc : c = l.toNat
          · rw [if_pos hc]
            have h0' : h.toNat - l.toNat = 0 := by omega
            simp only [slA, if_pos hc] at k
            refine k ⟨by simp only [slN, hlen], hb2, [], ?_, by rw [h0']; simp; exact .nil⟩
            simp [slCells, hlen, h0', rdOld]
          · rw [if_neg hc]
            simp only [slA, if_neg hc] at k
            refine k ⟨by simp only [slN, hlen], hb2, _, ?_, hrep⟩
            simp only [Option.map_some, slCells, hlen, Nat.le_refl, true_and]
            rw [if_pos (by omega), Option.map_eq_some_iff]
            refine ⟨(us.drop (l.toNat * Ob.n α)).take ((h.toNat - l.toNat) * Ob.n α), ?_, by rw [List.map_take, List.map_drop]⟩
            rw [rdOld_iff] at hu ⊢
            refine ⟨by simp; omega, fun i hi => ?_⟩
            have h2 := hu.2 (l.toNat * Ob.n α + i) (by omega)
            rw [List.getElem?_take, if_pos hi, List.getElem?_drop, ← h2, Addr.add_add]
        · cases e3
    | _ => cases e1
  | _ => cases e1
end
/-! ### Slices whose capacity is told: rules -/
theorem asl_slc {K : Kt} {H : AH} (t : TypeId) (b o n c : Nat) (lo hi : Option AV) : asl (K := K) P W0 t (.slc b o n c) lo hi H = aslE (K := K) W0 ((elt P t).bind (tyi P)) (.slc b o n c) lo hi H := rfl
theorem asl_own {K : Kt} {H : AH} (t : TypeId) (b o n : Nat) (lo hi : Option AV) : asl (K := K) P W0 t (.sl b o n) lo hi H = aslE (K := K) W0 ((elt P t).bind (tyi P)) (.sl b o n) lo hi H := rfl
theorem asl_nil {K : Kt} {H : AH} (t : TypeId) (a : Option Addr) (n c : Nat) (lo hi : Option AV) : asl (K := K) P W0 t (.v (.slice a n c)) lo hi H = aslE (K := K) W0 ((elt P t).bind (tyi P)) (.v (.slice a n c)) lo hi H := rfl
theorem boundA_none (d : Nat) : boundA d none = some (d : Int) := rfl
theorem boundA_int (d : Nat) (k : IntKind) (i : Int) : boundA d (some (.v (.int k i))) = some i := rfl
def aslB (B : Option Blk) (s b o c : Nat) (l h : Option Int) (H : AH) [K : Kt] : Prop := match B, l, h with
  | some B, some l, some h => B.esz = s ∧ 0 ≤ l ∧ l ≤ h ∧ h ≤ c ∧ K.k (.slc b (o + l.toNat * s) (h.toNat - l.toNat) (c - l.toNat)) H
  | _, _, _ => False
theorem aslE_slc {K : Kt} {H : AH} (g : Bool) (s b' : Nat) (z : List Value) (b o n c : Nat) (lo hi : Option AV) : aslE (K := K) W0 (some ⟨g, s, b', z⟩) (.slc b o n c) lo hi H = aslB (K := K) (H.blk b) s b o c (boundA 0 lo) (boundA n hi) H := by
  simp only [aslE, aslc, aslice, aslB]
  cases H.blk b with
  | none => rfl
  | some B => cases boundA 0 lo <;> cases boundA n hi <;> rfl
theorem aslB_some {K : Kt} {H : AH} (cs : List AV) (s' s b o c : Nat) (l h : Int) : aslB (K := K) (some ⟨cs, s'⟩) s b o c (some l) (some h) H = (s' = s ∧ 0 ≤ l ∧ l ≤ h ∧ h ≤ c ∧ K.k (.slc b (o + l.toNat * s) (h.toNat - l.toNat) (c - l.toNat)) H) := rfl
def aslA (B : Option Blk) (s b o n : Nat) (l h : Option Int) (H : AH) [K : Kt] : Prop := match B, l, h with
  | some B, some l, some h => B.esz = s ∧ 0 ≤ l ∧ l ≤ h ∧ h ≤ n ∧ K.k (.sl b (o + l.toNat * s) (h.toNat - l.toNat)) H
  | _, _, _ => False
theorem aslE_own {K : Kt} {H : AH} (g : Bool) (s b' : Nat) (z : List Value) (b o n : Nat) (lo hi : Option AV) : aslE (K := K) W0 (some ⟨g, s, b', z⟩) (.sl b o n) lo hi H = aslA (K := K) (H.blk b) s b o n (boundA 0 lo) (boundA n hi) H := by
  simp only [aslE, aslc, aslice, aslA]
  cases H.blk b with
  | none => rfl
  | some B => cases boundA 0 lo <;> cases boundA n hi <;> rfl
theorem aslA_some {K : Kt} {H : AH} (cs : List AV) (s' s b o n : Nat) (l h : Int) : aslA (K := K) (some ⟨cs, s'⟩) s b o n (some l) (some h) H = (s' = s ∧ 0 ≤ l ∧ l ≤ h ∧ h ≤ n ∧ K.k (.sl b (o + l.toNat * s) (h.toNat - l.toNat)) H) := rfl
theorem copy_rule {K : Kt} {H : AH} {g : Bool} {s by' : Nat} {z : List Value} {b o n m : Nat} {src : AV} {cs new : List AV} (hB : H.blk b = some ⟨cs, s⟩) (hn : slCells W0 H s (min m n) src = some new) (hl : new.all leafA = true) (h1 : o + n * s ≤ cs.length)
    (k : K.k (.v (.int .i64 (min m n : Nat))) (H.set b ⟨wr cs o new, s⟩)) : acopy (K := K) (some ⟨g, s, by', z⟩) (some (b, o, n)) (some m) src W0 H := by
  simp only [acopy, hB, hn]
  exact ⟨trivial, h1, hl, k⟩
theorem app_slc {K : Kt} {H : AH} {g : Bool} {s by' : Nat} {z : List Value} {b o n c m : Nat} {src : AV} {cs new : List AV} (hB : H.blk b = some ⟨cs, s⟩) (hn : slCells W0 H s m src = some new) (hm : lenA src = some m) (hl : new.all leafA = true) (h1 : o + c * s ≤ cs.length) (h2 : n ≤ c) (h3 : (n + m) * by' ≤ 140737488355328)
    (k1 : n + m ≤ c → K.k (.slc b o (n + m) c) (H.set b ⟨wr cs (o + n * s) new, s⟩)) (k2 : c < n + m → K.k (.sl H.nxt 0 (n + m)) (H.new ((cs.drop o).take (n * s) ++ new) s)) (g1 : 0 < s := by decide) (g2 : 0 < by' := by decide) (g3 : z.length = s := by rfl) :
    aapp (K := K) P W0 H (some ⟨g, s, by', z⟩) (.slc b o n c) src := by
  simp only [aapp, hm, hn, hB]
  refine ⟨g1, g2, g3, hl, trivial, h1, h2, h3, ?_⟩
  by_cases h : n + m ≤ c
  · rw [if_pos h]; exact k1 h
  · rw [if_neg h]; exact k2 (by omega)
theorem appz_slc {K : AV → AH → Prop} {H : AH} {e : TypeId} {i : TyI} (hi : tyi P e = some i) {b o n c m : Nat} {cs : List AV} (hB : H.blk b = some ⟨cs, i.size⟩) (h1 : o + c * i.size ≤ cs.length) (h2 : n ≤ c) (h3 : (n + m) * i.bytes ≤ 140737488355328) (h4 : c < n + m)
    (k : K (.sl H.nxt 0 (n + m)) (H.new ((cs.drop o).take (n * i.size) ++ zerosA i.zero m) i.size)) (g1 : 0 < i.size) (g2 : 0 < i.bytes) (g3 : i.zero.length = i.size) : aappendz P W0 H e (.slc b o n c) m K := by
  simp only [aappendz, hi, hB]
  exact ⟨g1, g2, g3, trivial, h1, h2, h3, h4, k⟩
theorem app_nil {K : Kt} {H : AH} {g : Bool} {s by' : Nat} {z : List Value} {a : Option Addr} {m : Nat} {src : AV} {new : List AV} (hn : slCells W0 H s m src = some new) (hm : lenA src = some m) (hl : new.all leafA = true) (h3 : m * by' ≤ 140737488355328)
    (k1 : m = 0 → K.k (.v (.slice a 0 0)) H) (k2 : m ≠ 0 → K.k (.sl H.nxt 0 m) (H.new new s)) (g1 : 0 < s := by decide) (g2 : 0 < by' := by decide) (g3 : z.length = s := by rfl) :
    aapp (K := K) P W0 H (some ⟨g, s, by', z⟩) (.v (.slice a 0 0)) src := by
  simp only [aapp, hm, hn]
  refine ⟨g1, g2, g3, hl, h3, ?_⟩
  by_cases h : m = 0
  · rw [if_pos h]; exact k1 h
  · rw [if_neg h]; exact k2 h
theorem app_sl0 {K : Kt} {H : AH} {g : Bool} {s by' : Nat} {z : List Value} {m : Nat} {src : AV} {new : List AV} (hn : slCells W0 H s m src = some new) (hm : lenA src = some m) (hl : new.all leafA = true) (h3 : m * by' ≤ 140737488355328)
    (k1 : m = 0 → K.k .sl0 H) (k2 : m ≠ 0 → K.k (.sl H.nxt 0 m) (H.new new s)) (g1 : 0 < s := by decide) (g2 : 0 < by' := by decide) (g3 : z.length = s := by rfl) :
    aapp (K := K) P W0 H (some ⟨g, s, by', z⟩) .sl0 src := by
  simp only [aapp, hm, hn]
  refine ⟨g1, g2, g3, hl, h3, ?_⟩
  by_cases h : m = 0
  · rw [if_pos h]; exact k1 h
  · rw [if_neg h]; exact k2 h
theorem asl_sl0 {K : Kt} {H : AH} (t : TypeId) (lo hi : Option AV) : asl (K := K) P W0 t .sl0 lo hi H = aslE (K := K) W0 ((elt P t).bind (tyi P)) .sl0 lo hi H := rfl
def aslZ (l h : Option Int) (H : AH) [K : Kt] : Prop := match l, h with
  | some l, some h => l = 0 ∧ h = 0 ∧ K.k .sl0 H
  | _, _ => False
theorem aslE_sl0 {K : Kt} {H : AH} (g : Bool) (s b' : Nat) (z : List Value) (lo hi : Option AV) : aslE (K := K) W0 (some ⟨g, s, b', z⟩) .sl0 lo hi H = aslZ (K := K) (boundA 0 lo) (boundA 0 hi) H := by
  simp only [aslE, aslc, aslice, aslZ]
  cases boundA 0 lo <;> cases boundA 0 hi <;> rfl
theorem aslZ_some {K : Kt} {H : AH} (l h : Int) : aslZ (K := K) (some l) (some h) H = (l = 0 ∧ h = 0 ∧ K.k .sl0 H) := rfl
theorem abi_len_sl0 {K : Kt} {H : AH} (t : TypeId) : abi (K := K) P W0 .len [t] [.sl0] H = ((elt P t).isSome = true ∧ K.k (.v (.int .i64 0)) H) := rfl
attribute [go_sem] asl_sl0 aslE_sl0 aslZ_some abi_len_sl0
attribute [go_sem] asl_slc asl_own asl_nil boundA_none boundA_int aslE_slc aslB_some aslE_own aslA_some abi_copy
theorem aslE_def (g : Bool) (s b : Nat) (z : List Value) (x : AV) (lo hi : Option AV) {H : AH} {K : Kt} : aslE (K := K) W0 (some ⟨g, s, b, z⟩) x lo hi H = aslc (K := K) W0 H s x lo hi := rfl
end
section
/-! The calculus 'Aw' at work, part 12: elements of slices that are owned, one by one; what is new; marks. -/
open Go Go.RowKit
set_option linter.unusedVariables false
set_option linter.unusedSimpArgs false
set_option linter.unusedSectionVars false
variable {P : Program} {W0 : World}
theorem take_app {A B : List AV} {p m : Nat} (h : A.length = p) : (A ++ B).take (p + m) = A ++ B.take m := by subst h; exact List.take_length_add_append ..
section
variable {α : Type} [Ob α] [Own α]
/-- One element of a slice that owns its block, by itself. -/
theorem OwnS.get {H : AH} {S : List Nat} {v : AV} {ys : List α} (h : OwnS H S v ys) (i : Nat) (hi : i < ys.length) :
    ∃ b o pre mid post S1 S2 S3, v = .sl b o ys.length ∧ H.blk b = some ⟨pre ++ (mid ++ post), Ob.n α⟩ ∧ pre.length = o + i * Ob.n α ∧ mid.length = Ob.n α ∧ S = b :: (S1 ++ (S2 ++ S3)) ∧ Own.own H S2 mid ys[i] ∧
      ∀ (H' : AH) (S2' : List Nat) (mid' : List AV) (y' : α), H'.blk b = some ⟨pre ++ (mid' ++ post), Ob.n α⟩ → (∀ x ∈ S1 ++ S3, H'.blk x = H.blk x) → Own.own H' S2' mid' y' → OwnS H' (b :: (S1 ++ (S2' ++ S3))) v (ys.set i y') := by
  rcases h with ⟨-, rfl, rfl⟩ | ⟨b, o, cs, T, rfl, hB, ho, hb, rfl, hO⟩
  · simp at hi
  obtain ⟨S1, S2, S3, rfl, h1, h2, h3⟩ := hO.get i hi
  have hle : (i + 1) * Ob.n α ≤ ys.length * Ob.n α := Nat.mul_le_mul_right _ hi
  rw [Nat.add_mul, Nat.one_mul] at hle
  have hcut : cs = cs.take (o + i * Ob.n α) ++ ((cs.drop (o + i * Ob.n α)).take (Ob.n α) ++ cs.drop (o + (i + 1) * Ob.n α)) := by
    have e1 : cs.drop (o + (i + 1) * Ob.n α) = (cs.drop (o + i * Ob.n α)).drop (Ob.n α) := by rw [List.drop_drop]; congr 1; rw [Nat.add_mul]; omega
    rw [e1, List.take_append_drop, List.take_append_drop]
  have e2 : (((cs.drop o).take (ys.length * Ob.n α)).drop (i * Ob.n α)).take (Ob.n α) = (cs.drop (o + i * Ob.n α)).take (Ob.n α) := by
    rw [List.drop_take, List.take_take, List.drop_drop]; congr 1; omega
  have e3 : ((cs.drop o).take (ys.length * Ob.n α)).take (i * Ob.n α) = (cs.drop o).take (i * Ob.n α) := by rw [List.take_take]; congr 1; omega
  have e4 : ((cs.drop o).take (ys.length * Ob.n α)).drop ((i + 1) * Ob.n α) = (cs.drop (o + (i + 1) * Ob.n α)).take ((ys.length - (i + 1)) * Ob.n α) := by
    rw [List.drop_take, List.drop_drop, Nat.sub_mul]
  rw [e2] at h2
  rw [e3] at h1
  rw [e4] at h3
  have hm : ((cs.drop (o + i * Ob.n α)).take (Ob.n α)).length = Ob.n α := by simp; omega
  have hp : (cs.take (o + i * Ob.n α)).length = o + i * Ob.n α := by simp; omega
  refine ⟨b, o, _, _, _, S1, S2, S3, rfl, by rw [hB]; congr 2, hp, hm, rfl, h2, fun H' S2' mid' y' hB' hk hown => ?_⟩
  have hml : mid'.length = Ob.n α := Ob.len (Own.rep (W0 := default) hown)
  refine .inr ⟨b, o, _, S1 ++ (S2' ++ S3), by rw [List.length_set], hB', ?_, by rw [List.length_set]; exact hb, rfl, ?_⟩
  · rw [List.length_set]; simp only [List.length_append, hp, hml, List.length_drop, Nat.add_mul, Nat.one_mul]; omega
  · have hset : ys.set i y' = ys.take i ++ ([y'] ++ ys.drop (i + 1)) := by rw [List.set_eq_take_append_cons_drop, if_pos hi]; rfl
    have hcells : ((cs.take (o + i * Ob.n α) ++ (mid' ++ cs.drop (o + (i + 1) * Ob.n α))).drop o).take ((ys.set i y').length * Ob.n α) = (cs.drop o).take (i * Ob.n α) ++ (mid' ++ (cs.drop (o + (i + 1) * Ob.n α)).take ((ys.length - (i + 1)) * Ob.n α)) := by
      rw [List.length_set, List.drop_append_of_le_length (by omega), List.drop_take]
      rw [show o + i * Ob.n α - o = i * Ob.n α by omega]
      have hl1 : ((cs.drop o).take (i * Ob.n α)).length = i * Ob.n α := by simp; omega
      rw [show ys.length * Ob.n α = i * Ob.n α + (Ob.n α + (ys.length - (i + 1)) * Ob.n α) by rw [Nat.sub_mul, Nat.add_mul]; omega]
      rw [take_app hl1, take_app hml]
    rw [hset] at hcells ⊢
    rw [hcells]
    exact (h1.eq fun x hx => hk x (List.mem_append_left _ hx)).append ((Owns.one hown).append (h3.eq fun x hx => hk x (List.mem_append_right _ hx)))
end
/-! ### Blocks, other than some, are as they were -/
def Chg (S : List Nat) (H H' : AH) : Prop := H'.nxt = H.nxt ∧ ∀ b, b ∉ S → H'.blk b = H.blk b
theorem Chg.refl (S : List Nat) (H : AH) : Chg S H H := ⟨rfl, fun _ _ => rfl⟩
theorem Chg.trans {S : List Nat} {a b c : AH} (h : Chg S a b) (k : Chg S b c) : Chg S a c := ⟨k.1.trans h.1, fun x hx => (k.2 x hx).trans (h.2 x hx)⟩
theorem Chg.sub {S T : List Nat} {a b : AH} (h : Chg S a b) (hs : ∀ x ∈ S, x ∈ T) : Chg T a b := ⟨h.1, fun x hx => h.2 x fun hm => hx (hs x hm)⟩
theorem Chg.set {S : List Nat} {H H' : AH} (h : Chg S H H') {b : Nat} (hb : b ∈ S) (B : Blk) : Chg S H (H'.set b B) := ⟨h.1, fun x hx => by rw [blk_set, if_neg (by rintro rfl; exact hx hb)]; exact h.2 x hx⟩
theorem Chg.wf {S : List Nat} {H H' : AH} (h : Chg S H H') (hw : H.wf) (hS : ∀ b ∈ S, b < H.nxt) : H'.wf := by
  intro b hb
  rw [h.1] at hb
  rw [h.2 b fun hm => by have := hS b hm; omega]
  exact hw b hb
theorem OwnS.chg {α : Type} [Ob α] [Own α] {S T : List Nat} {H H' : AH} {v : AV} {xs : List α} (h : OwnS H T v xs) (c : Chg S H H') (hd : ∀ b ∈ T, b ∉ S) : OwnS H' T v xs := h.eq fun b hb => c.2 b (hd b hb)
theorem Own.chg {α : Type} [Ob α] [Own α] {S T : List Nat} {H H' : AH} {cs : List AV} {x : α} (h : Own.own H T cs x) (c : Chg S H H') (hd : ∀ b ∈ T, b ∉ S) : Own.own H' T cs x := Own.eq h fun b hb => c.2 b (hd b hb)
theorem OwnS.sub {α : Type} [Ob α] [Own α] {T : List Nat} {H H' : AH} {v : AV} {xs : List α} (h : OwnS H T v xs) (hs : Sub H H') : OwnS H' T v xs := h.eq (hs.keep h.isin)
theorem Own.sub {α : Type} [Ob α] [Own α] {T : List Nat} {H H' : AH} {cs : List AV} {x : α} (h : Own.own H T cs x) (hs : Sub H H') : Own.own H' T cs x := Own.eq h (hs.keep (Own.isin h))
/-! ### What is new -/
/-- A slice in blocks that are new. -/
def NewS {α : Type} [Ob α] [Own α] (H H' : AH) (v : AV) (xs : List α) : Prop := Sub H H' ∧ ∃ S, OwnS H' S v xs ∧ Fresh H.nxt S
def NewV {α : Type} [Ob α] [Own α] (H H' : AH) (v : AV) (x : α) : Prop := Sub H H' ∧ ∃ S cs, v = .agg cs ∧ Own.own H' S cs x ∧ Fresh H.nxt S
/-- A fresh slice of elements under way: the first i are laid, and own what they lead to. -/
structure LayO {α : Type} [Ob α] [Own α] (H : AH) (H' : AH) (n i : Nat) (xs : List α) : Prop where
  sub : Sub H H'
  lt : H.nxt < H'.nxt
  blk : ∃ cs T, H'.blk H.nxt = some ⟨cs, Ob.n α⟩ ∧ cs.length = n * Ob.n α ∧ Owns H' T (cs.take (i * Ob.n α)) (xs.take i) ∧ Fresh (H.nxt + 1) T
theorem LayO.start {α : Type} [Ob α] [Own α] {H : AH} (hw : H.wf) {z : List Value} {n s : Nat} {xs : List α} (hz : z.length = s) (hs : s = Ob.n α) : LayO H (H.new (zerosA z n) s) n 0 xs := by
  subst hs
  refine ⟨(Sub.refl H).new hw _ _, by rw [nxt_new]; omega, zerosA z n, [], blk_new_self _ _ _, zeros_len _ _ _ hz, ?_, Fresh.nil _⟩
  simp
  exact .nil
theorem LayO.more {α : Type} [Ob α] [Own α] {H H' H'' : AH} {n i : Nat} {xs : List α} (h : LayO H H' n i xs) (hs : Sub H' H'') : LayO H H'' n i xs := by
  obtain ⟨h1, h2, cs, T, h4, h5, h6, h7⟩ := h
  exact ⟨h1.trans hs, Nat.lt_of_lt_of_le h2 hs.1, cs, T, hs.2 _ _ h4, h5, h6.eq (hs.keep h6.isin), h7⟩
theorem LayO.put {α : Type} [Ob α] [Own α] {H H0 H' : AH} {n i : Nat} {xs : List α} (hw : H.wf) (hw0 : H0.wf) (h0 : LayO H H0 n i xs) (hs : Sub H0 H') (hi : i < n) (hx : i < xs.length) {c : List AV} {S2 : List Nat} (hc : Own.own H' S2 c xs[i]) (hf : Fresh H0.nxt S2) {B : Blk} (hB : H'.blk H.nxt = some B) :
    LayO H (H'.set H.nxt ⟨wr B.cells (i * Ob.n α) c, B.esz⟩) n (i + 1) xs := by
  have hlt0 := h0.lt
  obtain ⟨g1, g2, g3, T0, g4, g5, g6, g7⟩ := h0
  have hT : ∀ b ∈ T0, b < H0.nxt := fun b hb => hw0.lt' (g6.isin b hb)
  have h4 := hs.2 _ _ g4
  rw [hB] at h4
  injection h4 with h4
  subst h4
  have hle : (i + 1) * Ob.n α ≤ n * Ob.n α := Nat.mul_le_mul_right _ hi
  rw [Nat.add_mul, Nat.one_mul] at hle
  have hl := Ob.len (Own.rep (W0 := default) hc)
  have h6 := g6.eq (hs.keep g6.isin)
  refine ⟨?_, Nat.lt_of_lt_of_le g2 hs.1, wr g3 (i * Ob.n α) c, T0 ++ S2, by rw [blk_set, if_pos rfl], ?_, ?_, g7.append hf hT (by omega)⟩
  · exact (g1.trans hs).set hw (Nat.le_refl _) _
  · simp only [wr, List.length_append, List.length_take, List.length_drop]; omega
  · have : (wr g3 (i * Ob.n α) c).take ((i + 1) * Ob.n α) = g3.take (i * Ob.n α) ++ c := by
      rw [wr, List.take_append_of_le_length (by simp; rw [Nat.add_mul]; omega), List.take_of_length_le]
      simp; rw [Nat.add_mul]; omega
    rw [this, List.take_succ_eq_append_getElem hx]
    have hset : ∀ b, b ≠ H.nxt → (H'.set H.nxt ⟨wr g3 (i * Ob.n α) c, Ob.n α⟩).blk b = H'.blk b := fun b hb => by rw [blk_set, if_neg hb]
    refine (h6.eq fun b hb => hset b ?_).append (Owns.one (Own.eq hc fun b hb => hset b ?_))
    · have := g7.2 b hb; omega
    · have := hf.2 b hb; omega
theorem LayO.done {α : Type} [Ob α] [Own α] {H H' : AH} {xs : List α} (h : LayO H H' xs.length xs.length xs) (hb : xs.length ≤ big) : NewS H H' (.sl H.nxt 0 xs.length) xs := by
  obtain ⟨h1, h2, cs, T, h4, h5, h6, h7⟩ := h
  rw [List.take_of_length_le (by omega), List.take_of_length_le (Nat.le_refl _)] at h6
  refine ⟨h1, H.nxt :: T, .inr ⟨H.nxt, 0, cs, T, rfl, h4, by omega, hb, rfl, ?_⟩, (h7.le (Nat.le_succ _)).cons (Nat.le_refl _) fun hm => ?_⟩
  · rw [List.drop_zero, List.take_of_length_le (by omega)]; exact h6
  · have := h7.2 _ hm; omega
/-! ### Marks -/
class Mk (α : Type) where
  cnt : α → Nat
  put : α → Int → α
section
variable {α : Type} [Mk α]
def cntL (xs : List α) : Nat := (xs.map Mk.cnt).sum
def putL : List α → Int → List α
  | [], _ => []
  | x :: xs, k => Mk.put x k :: putL xs (k + Mk.cnt x)
theorem putL_length : ∀ (xs : List α) (k : Int), (putL xs k).length = xs.length
  | [], _ => rfl
  | x :: xs, k => by simp [putL, putL_length xs]
theorem cntL_take {xs : List α} {i : Nat} (hi : i < xs.length) : cntL (xs.take (i + 1)) = cntL (xs.take i) + Mk.cnt xs[i] := by
  simp only [cntL]
  rw [List.take_succ_eq_append_getElem hi, List.map_append, List.sum_append]; simp
theorem cntL_cons (x : α) (xs : List α) : cntL (x :: xs) = Mk.cnt x + cntL xs := by simp [cntL]
theorem cntL_take_le (xs : List α) (i : Nat) : cntL (xs.take i) ≤ cntL xs := sum_take_le _ xs i
theorem putL_get : ∀ (xs : List α) (k : Int) (i : Nat) (hi : i < xs.length), (putL xs k)[i]? = some (Mk.put xs[i] (k + cntL (xs.take i)))
  | x :: xs, k, 0, _ => by simp [putL, cntL]
  | x :: xs, k, i + 1, hi => by
    simp only [putL, List.getElem?_cons_succ, List.take_succ_cons, cntL_cons, List.getElem_cons_succ]
    rw [putL_get xs _ i (by simpa using hi)]
    congr 2
    omega
def mkTo (xs : List α) (k : Int) (i : Nat) : List α := putL (xs.take i) k ++ xs.drop i
theorem mkTo_zero (xs : List α) (k : Int) : mkTo xs k 0 = xs := by simp [mkTo, putL]
theorem mkTo_all (xs : List α) (k : Int) {i : Nat} (h : xs.length ≤ i) : mkTo xs k i = putL xs k := by simp [mkTo, List.take_of_length_le h, List.drop_eq_nil_of_le h]
theorem mkTo_length (xs : List α) (k : Int) (i : Nat) : (mkTo xs k i).length = xs.length := by simp [mkTo, putL_length]; omega
theorem mkTo_get (xs : List α) (k : Int) (i : Nat) (hi : i < xs.length) : (mkTo xs k i)[i]'(by rw [mkTo_length]; exact hi) = xs[i] := by
  have : (putL (xs.take i) k).length = i := by rw [putL_length]; simp; omega
  have h2 : (mkTo xs k i)[i]? = some xs[i] := by
    rw [mkTo, List.getElem?_append_right (by omega), this, Nat.sub_self, List.getElem?_drop]; simp [hi]
  rw [List.getElem?_eq_getElem (by rw [mkTo_length]; exact hi)] at h2
  injection h2
theorem putL_append : ∀ (xs ys : List α) (k : Int), putL (xs ++ ys) k = putL xs k ++ putL ys (k + cntL xs)
  | [], ys, k => by simp [putL, cntL]
  | x :: xs, ys, k => by
    simp only [List.cons_append, putL, putL_append xs ys, cntL_cons]
    congr 3
    omega
theorem mkTo_set (xs : List α) (k : Int) (i : Nat) (hi : i < xs.length) : (mkTo xs k i).set i (Mk.put xs[i] (k + cntL (xs.take i))) = mkTo xs k (i + 1) := by
  have hl : (putL (xs.take i) k).length = i := by rw [putL_length]; simp; omega
  rw [mkTo, List.set_append_right _ _ (by omega), hl, Nat.sub_self, List.drop_eq_getElem_cons hi, List.set_cons_zero]
  rw [mkTo, List.take_succ_eq_append_getElem hi, putL_append]
  simp [putL]
end
instance {α : Type} [Mk α] : Mk (List α) := ⟨cntL, putL⟩
instance : Mk Int := ⟨fun _ => 1, fun _ k => k⟩
/-! ### Writing behind a beginning -/
theorem wr_pre {pre : List AV} {p : Nat} (h : pre.length = p) (r : List AV) (f : Nat) (cs : List AV) : wr (pre ++ r) (p + f) cs = pre ++ wr r f cs := by
  subst h
  simp [wr, List.take_append, List.drop_append, Nat.add_assoc, List.take_of_length_le, List.drop_eq_nil_of_le]
theorem wr_preA {pre : List AV} {o q : Nat} (h : pre.length = o + q) (r : List AV) (f : Nat) (cs : List AV) : wr (pre ++ r) (o + (q + f)) cs = pre ++ wr r f cs := by
  rw [← Nat.add_assoc]; exact wr_pre h r f cs
theorem wr_pre0 {pre : List AV} {p : Nat} (h : pre.length = p) (r cs : List AV) : wr (pre ++ r) p cs = pre ++ wr r 0 cs := by
  have := wr_pre h r 0 cs
  rwa [Nat.add_zero] at this
theorem wr_succ (a : AV) (l : List AV) (f : Nat) (cs : List AV) : wr (a :: l) (f + 1) cs = a :: wr l f cs := by
  simp [wr, Nat.add_right_comm]
theorem wr_zero (a x : AV) (l cs : List AV) : wr (a :: l) 0 (x :: cs) = x :: wr l 0 cs := by simp [wr]
theorem wr_none (l : List AV) : wr l 0 [] = l := by simp [wr]
theorem set_set (H : AH) (b : Nat) (B B' : Blk) : (H.set b B).set b B' = H.set b B' := by
  simp only [AH.set, AH.mk.injEq, and_true]
  funext x
  by_cases h : x = b <;> simp [h]
theorem foc_ne {S S1 S2 S3 : List Nat} {b : Nat} (hS : S = b :: (S1 ++ (S2 ++ S3))) (hn : S.Nodup) : ∀ x ∈ S1 ++ S3, x ≠ b := by
  subst hS
  rintro x hx rfl
  refine (List.nodup_cons.1 hn).1 ?_
  rcases List.mem_append.1 hx with hx | hx
  · exact List.mem_append_left _ hx
  · exact List.mem_append_right _ (List.mem_append_right _ hx)
theorem blk_set_self (H : AH) (b : Nat) (B : Blk) : (H.set b B).blk b = some B := by rw [blk_set, if_pos rfl]
theorem blk_set_ne (H : AH) {b x : Nat} (h : x ≠ b) (B : Blk) : (H.set b B).blk x = H.blk x := by rw [blk_set, if_neg h]
theorem drop_pre {pre : List AV} {p : Nat} (h : pre.length = p) (r : List AV) (f : Nat) : (pre ++ r).drop (p + f) = r.drop f := by
  subst h
  simp [List.drop_append, List.drop_eq_nil_of_le]
theorem drop_preA {pre : List AV} {o q : Nat} (h : pre.length = o + q) (r : List AV) (f : Nat) : (pre ++ r).drop (o + (q + f)) = r.drop f := by
  rw [← Nat.add_assoc]; exact drop_pre h r f
theorem drop_pre0 {pre : List AV} {p : Nat} (h : pre.length = p) (r : List AV) : (pre ++ r).drop p = r := by
  subst h
  simp
end
section
/-! Who owns what, and the marks, at the program's records. Printed by gen2.py. -/
open Go Go.RowKit
set_option linter.unusedVariables false
set_option linter.unusedSimpArgs false
/-- The text of a mark. -/
def mdig : Nat → Int → ByteArray → ByteArray
  | 0, _, out => out
  | f + 1, k, out => if 0 < k then mdig f (k / 10) (strOfNums [48 + k % 10] ++ out) else out
def mtext (k : Int) : ByteArray := if k ≤ 0 then ⟨#[109, 48]⟩ else ⟨#[109]⟩ ++ mdig 20 k ⟨#[]⟩
theorem mdig_size : ∀ (f : Nat) (k : Int) (out : ByteArray), (mdig f k out).size ≤ f + out.size
  | 0, _, _ => by simp [mdig]
  | f + 1, k, out => by
    unfold mdig
    split
    · have := mdig_size f (k / 10) (strOfNums [48 + k % 10] ++ out)
      rw [ByteArray.size_append, strOfNums_size] at this
      simp at this
      omega
    · omega
theorem mtext_size (k : Int) : (mtext k).size ≤ 21 := by
  unfold mtext
  split
  · decide
  · rw [ByteArray.size_append]
    have := mdig_size 20 k ⟨#[]⟩
    have h0 : (⟨#[]⟩ : ByteArray).size = 0 := rfl
    have h1 : (⟨#[109]⟩ : ByteArray).size = 1 := rfl
    omega
instance : Own OpD where
  own H S cs x := S = [] ∧ cs = [.v (.int .i64 x.kind), .v (.string x.key), .v (.int .i64 x.what), .v (.int .i64 x.val)] ∧ inI64 x.kind ∧ x.key.size ≤ big ∧ inI64 x.what ∧ inI64 x.val
  rep := by
    rintro _ _ _ _ _ ⟨rfl, rfl, f0, f1, f2, f3⟩
    exact ⟨rfl, f0, f1, f2, f3⟩
  eq := by
    rintro _ _ _ _ _ ⟨rfl, rfl, f0, f1, f2, f3⟩ k
    exact ⟨rfl, rfl, f0, f1, f2, f3⟩
  isin := by
    rintro _ _ _ _ ⟨rfl, rfl, f0, f1, f2, f3⟩ b hb
    cases hb
instance : Mk OpD where
  cnt x := 4
  put x k := ⟨k, mtext (k + 1), k + 1 + 1, k + 1 + 1 + 1⟩
instance : Own RowD where
  own H S cs x := S = [] ∧ cs = [.v (.string x.key), .v (.int .i64 x.kind), .v (.int .i64 x.sum), .v (.bool x.set), .v (.int .i64 x.last), .v (.int .i64 x.n), .v (.int .i64 x.mn), .v (.int .i64 x.mx), .v (.int .i64 x.total), .v (.int .i64 x.dropped)] ∧ x.key.size ≤ big ∧ inI64 x.kind ∧ inI64 x.sum ∧ inI64 x.last ∧ inI64 x.n ∧ inI64 x.mn ∧ inI64 x.mx ∧ inI64 x.total ∧ inI64 x.dropped
  rep := by
    rintro _ _ _ _ _ ⟨rfl, rfl, f0, f1, f2, f3, f4, f5, f6, f7, f8⟩
    exact ⟨rfl, f0, f1, f2, f3, f4, f5, f6, f7, f8⟩
  eq := by
    rintro _ _ _ _ _ ⟨rfl, rfl, f0, f1, f2, f3, f4, f5, f6, f7, f8⟩ k
    exact ⟨rfl, rfl, f0, f1, f2, f3, f4, f5, f6, f7, f8⟩
  isin := by
    rintro _ _ _ _ ⟨rfl, rfl, f0, f1, f2, f3, f4, f5, f6, f7, f8⟩ b hb
    cases hb
instance : Mk RowD where
  cnt x := 10
  put x k := ⟨mtext (k), k + 1, k + 1 + 1, decide ((k + 1 + 1 + 1) % 3 = 0), k + 1 + 1 + 1 + 1, k + 1 + 1 + 1 + 1 + 1, k + 1 + 1 + 1 + 1 + 1 + 1, k + 1 + 1 + 1 + 1 + 1 + 1 + 1, k + 1 + 1 + 1 + 1 + 1 + 1 + 1 + 1, k + 1 + 1 + 1 + 1 + 1 + 1 + 1 + 1 + 1⟩
instance : Own KRowD where
  own H S cs x := S = [] ∧ cs = [.v (.string x.key), .v (.int .i64 x.kind)] ∧ x.key.size ≤ big ∧ inI64 x.kind
  rep := by
    rintro _ _ _ _ _ ⟨rfl, rfl, f0, f1⟩
    exact ⟨rfl, f0, f1⟩
  eq := by
    rintro _ _ _ _ _ ⟨rfl, rfl, f0, f1⟩ k
    exact ⟨rfl, rfl, f0, f1⟩
  isin := by
    rintro _ _ _ _ ⟨rfl, rfl, f0, f1⟩ b hb
    cases hb
instance : Mk KRowD where
  cnt x := 2
  put x k := ⟨mtext (k), k + 1⟩
instance : Own QueueD where
  own H S cs x := ∃ v_ops S_ops, S = S_ops ∧ cs = [v_ops] ∧ OwnS H S_ops v_ops x.ops
  rep := by
    rintro _ _ _ _ _ ⟨v_ops, S_ops, rfl, rfl, f0⟩
    exact ⟨v_ops, rfl, f0.slr⟩
  eq := by
    rintro _ _ _ _ _ ⟨v_ops, S_ops, rfl, rfl, f0⟩ k
    exact ⟨v_ops, _, rfl, rfl, f0.eq fun b hb => k b (hb)⟩
  isin := by
    rintro _ _ _ _ ⟨v_ops, S_ops, rfl, rfl, f0⟩ b hb
    exact f0.isin b hb
instance : Mk QueueD where
  cnt x := cntL x.ops
  put x k := ⟨putL x.ops k⟩
instance : Own JobD where
  own H S cs x := ∃ v_keys v_raw S_keys S_raw, S = S_keys ++ S_raw ∧ cs = [.v (.bool x.busy), .v (.int .i64 x.op.kind), .v (.string x.op.key), .v (.int .i64 x.op.what), .v (.int .i64 x.op.val), .v (.int .i64 x.serial), .v (.int .i64 x.pc), .v (.int .i64 x.k), .v (.int .i64 x.slot), .v (.int .i64 x.what), .v (.int .i64 x.e), .v (.int .i64 x.stamp), .v (.int .i64 x.old), .v (.int .i64 x.flips), .v (.int .i64 x.steps), .v (.int .i64 x.code), v_keys, v_raw] ∧ inI64 x.op.kind ∧ x.op.key.size ≤ big ∧ inI64 x.op.what ∧ inI64 x.op.val ∧ inI64 x.serial ∧ inI64 x.pc ∧ inI64 x.k ∧ inI64 x.slot ∧ inI64 x.what ∧ inI64 x.e ∧ inI64 x.stamp ∧ inI64 x.old ∧ inI64 x.flips ∧ inI64 x.steps ∧ inI64 x.code ∧ OwnS H S_keys v_keys x.keys ∧ OwnS H S_raw v_raw x.raw
  rep := by
    rintro _ _ _ _ _ ⟨v_keys, v_raw, S_keys, S_raw, rfl, rfl, f0, f1, f2, f3, f4, f5, f6, f7, f8, f9, f10, f11, f12, f13, f14, f15, f16⟩
    exact ⟨v_keys, v_raw, rfl, f0, f1, f2, f3, f4, f5, f6, f7, f8, f9, f10, f11, f12, f13, f14, f15.slr, f16.slr⟩
  eq := by
    rintro _ _ _ _ _ ⟨v_keys, v_raw, S_keys, S_raw, rfl, rfl, f0, f1, f2, f3, f4, f5, f6, f7, f8, f9, f10, f11, f12, f13, f14, f15, f16⟩ k
    exact ⟨v_keys, v_raw, _, _, rfl, rfl, f0, f1, f2, f3, f4, f5, f6, f7, f8, f9, f10, f11, f12, f13, f14, f15.eq fun b hb => k b (List.mem_append_left _ hb), f16.eq fun b hb => k b (List.mem_append_right _ (hb))⟩
  isin := by
    rintro _ _ _ _ ⟨v_keys, v_raw, S_keys, S_raw, rfl, rfl, f0, f1, f2, f3, f4, f5, f6, f7, f8, f9, f10, f11, f12, f13, f14, f15, f16⟩ b hb
    rcases List.mem_append.1 hb with hb | hb
    · exact f15.isin b hb
    exact f16.isin b hb
instance : Mk JobD where
  cnt x := 16 + cntL x.keys + cntL x.raw
  put x k := ⟨decide ((k) % 3 = 0), ⟨k + 1, mtext (k + 1 + 1), k + 1 + 1 + 1, k + 1 + 1 + 1 + 1⟩, k + 1 + 1 + 1 + 1 + 1, k + 1 + 1 + 1 + 1 + 1 + 1, k + 1 + 1 + 1 + 1 + 1 + 1 + 1, k + 1 + 1 + 1 + 1 + 1 + 1 + 1 + 1, k + 1 + 1 + 1 + 1 + 1 + 1 + 1 + 1 + 1, k + 1 + 1 + 1 + 1 + 1 + 1 + 1 + 1 + 1 + 1, k + 1 + 1 + 1 + 1 + 1 + 1 + 1 + 1 + 1 + 1 + 1, k + 1 + 1 + 1 + 1 + 1 + 1 + 1 + 1 + 1 + 1 + 1 + 1, k + 1 + 1 + 1 + 1 + 1 + 1 + 1 + 1 + 1 + 1 + 1 + 1 + 1, k + 1 + 1 + 1 + 1 + 1 + 1 + 1 + 1 + 1 + 1 + 1 + 1 + 1 + 1, k + 1 + 1 + 1 + 1 + 1 + 1 + 1 + 1 + 1 + 1 + 1 + 1 + 1 + 1 + 1, putL x.keys (k + 1 + 1 + 1 + 1 + 1 + 1 + 1 + 1 + 1 + 1 + 1 + 1 + 1 + 1 + 1 + 1), putL x.raw (k + 1 + 1 + 1 + 1 + 1 + 1 + 1 + 1 + 1 + 1 + 1 + 1 + 1 + 1 + 1 + 1 + cntL x.keys)⟩
instance : Own EvD where
  own H S cs x := ∃ v_rows S_rows, S = S_rows ∧ cs = [.v (.int .i64 x.kind), .v (.int .i64 x.who), .v (.int .i64 x.serial), .v (.int .i64 x.tm), .v (.int .i64 x.op.kind), .v (.string x.op.key), .v (.int .i64 x.op.what), .v (.int .i64 x.op.val), .v (.int .i64 x.code), .v (.int .i64 x.win), .v (.int .i64 x.steps), .v (.int .i64 x.flips), v_rows] ∧ inI64 x.kind ∧ inI64 x.who ∧ inI64 x.serial ∧ inI64 x.tm ∧ inI64 x.op.kind ∧ x.op.key.size ≤ big ∧ inI64 x.op.what ∧ inI64 x.op.val ∧ inI64 x.code ∧ inI64 x.win ∧ inI64 x.steps ∧ inI64 x.flips ∧ OwnS H S_rows v_rows x.rows
  rep := by
    rintro _ _ _ _ _ ⟨v_rows, S_rows, rfl, rfl, f0, f1, f2, f3, f4, f5, f6, f7, f8, f9, f10, f11, f12⟩
    exact ⟨v_rows, rfl, f0, f1, f2, f3, f4, f5, f6, f7, f8, f9, f10, f11, f12.slr⟩
  eq := by
    rintro _ _ _ _ _ ⟨v_rows, S_rows, rfl, rfl, f0, f1, f2, f3, f4, f5, f6, f7, f8, f9, f10, f11, f12⟩ k
    exact ⟨v_rows, _, rfl, rfl, f0, f1, f2, f3, f4, f5, f6, f7, f8, f9, f10, f11, f12.eq fun b hb => k b (hb)⟩
  isin := by
    rintro _ _ _ _ ⟨v_rows, S_rows, rfl, rfl, f0, f1, f2, f3, f4, f5, f6, f7, f8, f9, f10, f11, f12⟩ b hb
    exact f12.isin b hb
instance : Mk EvD where
  cnt x := 12 + cntL x.rows
  put x k := ⟨k, k + 1, k + 1 + 1, k + 1 + 1 + 1, ⟨k + 1 + 1 + 1 + 1, mtext (k + 1 + 1 + 1 + 1 + 1), k + 1 + 1 + 1 + 1 + 1 + 1, k + 1 + 1 + 1 + 1 + 1 + 1 + 1⟩, k + 1 + 1 + 1 + 1 + 1 + 1 + 1 + 1, k + 1 + 1 + 1 + 1 + 1 + 1 + 1 + 1 + 1, k + 1 + 1 + 1 + 1 + 1 + 1 + 1 + 1 + 1 + 1, k + 1 + 1 + 1 + 1 + 1 + 1 + 1 + 1 + 1 + 1 + 1, putL x.rows (k + 1 + 1 + 1 + 1 + 1 + 1 + 1 + 1 + 1 + 1 + 1 + 1)⟩
instance : Own WorldD where
  own H S cs x := ∃ v_cells v_jobs v_todo v_log S_cells S_jobs S_todo S_log, S = S_cells ++ (S_jobs ++ (S_todo ++ (S_log))) ∧ cs = [v_cells, v_jobs, v_todo, v_log, .v (.int .i64 x.serial), .v (.int .i64 x.now)] ∧ OwnS H S_cells v_cells x.cells ∧ OwnS H S_jobs v_jobs x.jobs ∧ OwnS H S_todo v_todo x.todo ∧ OwnS H S_log v_log x.log ∧ inI64 x.serial ∧ inI64 x.now
  rep := by
    rintro _ _ _ _ _ ⟨v_cells, v_jobs, v_todo, v_log, S_cells, S_jobs, S_todo, S_log, rfl, rfl, f0, f1, f2, f3, f4, f5⟩
    exact ⟨v_cells, v_jobs, v_todo, v_log, rfl, f0.slr, f1.slr, f2.slr, f3.slr, f4, f5⟩
  eq := by
    rintro _ _ _ _ _ ⟨v_cells, v_jobs, v_todo, v_log, S_cells, S_jobs, S_todo, S_log, rfl, rfl, f0, f1, f2, f3, f4, f5⟩ k
    exact ⟨v_cells, v_jobs, v_todo, v_log, _, _, _, _, rfl, rfl, f0.eq fun b hb => k b (List.mem_append_left _ hb), f1.eq fun b hb => k b (List.mem_append_right _ (List.mem_append_left _ hb)), f2.eq fun b hb => k b (List.mem_append_right _ (List.mem_append_right _ (List.mem_append_left _ hb))), f3.eq fun b hb => k b (List.mem_append_right _ (List.mem_append_right _ (List.mem_append_right _ (hb)))), f4, f5⟩
  isin := by
    rintro _ _ _ _ ⟨v_cells, v_jobs, v_todo, v_log, S_cells, S_jobs, S_todo, S_log, rfl, rfl, f0, f1, f2, f3, f4, f5⟩ b hb
    rcases List.mem_append.1 hb with hb | hb
    · exact f0.isin b hb
    rcases List.mem_append.1 hb with hb | hb
    · exact f1.isin b hb
    rcases List.mem_append.1 hb with hb | hb
    · exact f2.isin b hb
    exact f3.isin b hb
instance : Mk WorldD where
  cnt x := cntL x.cells + cntL x.jobs + cntL x.todo + cntL x.log
  put x k := ⟨putL x.cells (k), putL x.jobs (k + cntL x.cells), putL x.todo (k + cntL x.cells + cntL x.jobs), putL x.log (k + cntL x.cells + cntL x.jobs + cntL x.todo), x.serial, x.now⟩
instance : Own ScriptD where
  own H S cs x := ∃ v_todo v_picks S_todo S_picks, S = S_todo ++ S_picks ∧ cs = [v_todo, v_picks] ∧ OwnS H S_todo v_todo x.todo ∧ OwnS H S_picks v_picks x.picks
  rep := by
    rintro _ _ _ _ _ ⟨v_todo, v_picks, S_todo, S_picks, rfl, rfl, f0, f1⟩
    exact ⟨v_todo, v_picks, rfl, f0.slr, f1.slr⟩
  eq := by
    rintro _ _ _ _ _ ⟨v_todo, v_picks, S_todo, S_picks, rfl, rfl, f0, f1⟩ k
    exact ⟨v_todo, v_picks, _, _, rfl, rfl, f0.eq fun b hb => k b (List.mem_append_left _ hb), f1.eq fun b hb => k b (List.mem_append_right _ (hb))⟩
  isin := by
    rintro _ _ _ _ ⟨v_todo, v_picks, S_todo, S_picks, rfl, rfl, f0, f1⟩ b hb
    rcases List.mem_append.1 hb with hb | hb
    · exact f0.isin b hb
    exact f1.isin b hb
instance : Mk ScriptD where
  cnt x := cntL x.todo + cntL x.picks
  put x k := ⟨putL x.todo (k), putL x.picks (k + cntL x.todo)⟩
instance : Own ModelD where
  own H S cs x := ∃ v_keys v_rows S_keys S_rows, S = S_keys ++ S_rows ∧ cs = [v_keys, v_rows] ∧ OwnS H S_keys v_keys x.keys ∧ OwnS H S_rows v_rows x.rows
  rep := by
    rintro _ _ _ _ _ ⟨v_keys, v_rows, S_keys, S_rows, rfl, rfl, f0, f1⟩
    exact ⟨v_keys, v_rows, rfl, f0.slr, f1.slr⟩
  eq := by
    rintro _ _ _ _ _ ⟨v_keys, v_rows, S_keys, S_rows, rfl, rfl, f0, f1⟩ k
    exact ⟨v_keys, v_rows, _, _, rfl, rfl, f0.eq fun b hb => k b (List.mem_append_left _ hb), f1.eq fun b hb => k b (List.mem_append_right _ (hb))⟩
  isin := by
    rintro _ _ _ _ ⟨v_keys, v_rows, S_keys, S_rows, rfl, rfl, f0, f1⟩ b hb
    rcases List.mem_append.1 hb with hb | hb
    · exact f0.isin b hb
    exact f1.isin b hb
instance : Mk ModelD where
  cnt x := cntL x.keys + cntL x.rows
  put x k := ⟨putL x.keys (k), putL x.rows (k + cntL x.keys)⟩
/-- Records that lead nowhere. -/
class Flat (α : Type) [Ob α] [Own α] where
  enc : α → List AV
  ok : α → Prop
  own_iff : ∀ {H S cs x}, Own.own H S cs x ↔ S = [] ∧ cs = enc x ∧ ok x
  rep_enc : ∀ {W0 H cs x}, Ob.rep W0 H cs x → cs = enc x ∧ ok x
instance : Flat Int where
  enc x := [.v (.int .i64 x)]
  ok x := inI64 x
  own_iff := Iff.rfl
  rep_enc h := h
instance : Flat OpD where
  enc x := [.v (.int .i64 x.kind), .v (.string x.key), .v (.int .i64 x.what), .v (.int .i64 x.val)]
  ok x := inI64 x.kind ∧ x.key.size ≤ big ∧ inI64 x.what ∧ inI64 x.val
  own_iff := Iff.rfl
  rep_enc h := h
instance : Flat RowD where
  enc x := [.v (.string x.key), .v (.int .i64 x.kind), .v (.int .i64 x.sum), .v (.bool x.set), .v (.int .i64 x.last), .v (.int .i64 x.n), .v (.int .i64 x.mn), .v (.int .i64 x.mx), .v (.int .i64 x.total), .v (.int .i64 x.dropped)]
  ok x := x.key.size ≤ big ∧ inI64 x.kind ∧ inI64 x.sum ∧ inI64 x.last ∧ inI64 x.n ∧ inI64 x.mn ∧ inI64 x.mx ∧ inI64 x.total ∧ inI64 x.dropped
  own_iff := Iff.rfl
  rep_enc h := h
instance : Flat KRowD where
  enc x := [.v (.string x.key), .v (.int .i64 x.kind)]
  ok x := x.key.size ≤ big ∧ inI64 x.kind
  own_iff := Iff.rfl
  rep_enc h := h
section
variable {α : Type} [Ob α] [Own α] [Flat α]
def encL (xs : List α) : List AV := (xs.map Flat.enc).flatten
theorem enc_len {x : α} (h : Flat.ok x) : (Flat.enc x).length = Ob.n α := Ob.len (Own.rep (W0 := default) (H := ⟨fun _ => none, 0⟩) (Flat.own_iff.2 ⟨rfl, rfl, h⟩))
theorem encL_len {xs : List α} (h : ∀ x ∈ xs, Flat.ok x) : (encL xs).length = xs.length * Ob.n α := by
  induction xs with
  | nil => simp [encL]
  | cons x xs ih =>
    have := ih fun y hy => h y (List.mem_cons_of_mem _ hy)
    simp only [encL, List.map_cons, List.flatten_cons, List.length_append, List.length_cons] at this ⊢
    rw [this, enc_len (h x (List.mem_cons_self ..)), Nat.add_mul]; omega
theorem encL_append (xs ys : List α) : encL (xs ++ ys) = encL xs ++ encL ys := by simp [encL]
theorem encL_cons (x : α) (xs : List α) : encL (x :: xs) = Flat.enc x ++ encL xs := by simp [encL]
theorem Owns.flat {H : AH} {T : List Nat} {cs : List AV} {xs : List α} (h : Owns H T cs xs) : T = [] ∧ cs = encL xs ∧ ∀ x ∈ xs, Flat.ok x := by
  induction h with
  | nil => exact ⟨rfl, rfl, fun _ h => by cases h⟩
  | cons h _ ih =>
    obtain ⟨rfl, rfl, h1⟩ := Flat.own_iff.1 h
    obtain ⟨rfl, rfl, h2⟩ := ih
    exact ⟨rfl, (encL_cons _ _).symm, fun x hx => (List.mem_cons.1 hx).elim (fun e => e ▸ h1) (h2 x)⟩
theorem Owns.ofFlat (H : AH) {xs : List α} (h : ∀ x ∈ xs, Flat.ok x) : Owns H [] (encL xs) xs := by
  induction xs with
  | nil => exact .nil
  | cons x xs ih =>
    rw [encL_cons]
    exact Owns.cons (S := []) (Flat.own_iff.2 ⟨rfl, rfl, h x (List.mem_cons_self ..)⟩) (ih fun y hy => h y (List.mem_cons_of_mem _ hy))
theorem OwnS.flat {H : AH} {S : List Nat} {v : AV} {xs : List α} (h : OwnS H S v xs) : (v = .v (.slice none 0 0) ∧ xs = [] ∧ S = []) ∨
    ∃ b o cs, v = .sl b o xs.length ∧ H.blk b = some ⟨cs, Ob.n α⟩ ∧ o + xs.length * Ob.n α ≤ cs.length ∧ xs.length ≤ big ∧ S = [b] ∧ (cs.drop o).take (xs.length * Ob.n α) = encL xs ∧ ∀ x ∈ xs, Flat.ok x := by
  rcases h with h | ⟨b, o, cs, T, h1, h2, h3, h4, h5, h6⟩
  · exact .inl h
  · obtain ⟨rfl, h7, h8⟩ := h6.flat
    exact .inr ⟨b, o, cs, h1, h2, h3, h4, h5, h7, h8⟩
theorem OwnS.ofFlat {H : AH} {b o : Nat} {cs : List AV} {xs : List α} {n : Nat} (h1 : H.blk b = some ⟨cs, Ob.n α⟩) (h2 : (cs.drop o).take (xs.length * Ob.n α) = encL xs) (h3 : o + xs.length * Ob.n α ≤ cs.length) (h4 : xs.length ≤ big) (h5 : ∀ x ∈ xs, Flat.ok x) (hn : n = xs.length) : OwnS H [b] (.sl b o n) xs := by
  subst hn
  exact .inr ⟨b, o, cs, [], rfl, h1, h3, h4, rfl, by rw [h2]; exact Owns.ofFlat H h5⟩
theorem Reps.flat {W0 : World} {H : AH} {cs : List AV} {xs : List α} (hf : ∀ {W0 H cs} {x : α}, Ob.rep W0 H cs x → cs = Flat.enc x ∧ Flat.ok x) (h : Reps W0 H cs xs) : cs = encL xs ∧ ∀ x ∈ xs, Flat.ok x := by
  induction h with
  | nil => exact ⟨rfl, fun _ h => by cases h⟩
  | cons h _ ih =>
    obtain ⟨rfl, h1⟩ := hf h
    obtain ⟨rfl, h2⟩ := ih
    exact ⟨(encL_cons _ _).symm, fun x hx => (List.mem_cons.1 hx).elim (fun e => e ▸ h1) (h2 x)⟩
end
/-! ### What a function that takes over blocks leaves -/
def Upd (S : List Nat) (H H' : AH) (S' : List Nat) : Prop := H.nxt ≤ H'.nxt ∧ (∀ b B, b ∉ S → H.blk b = some B → H'.blk b = some B) ∧ (∀ b ∈ S', b ∈ S ∨ H.nxt ≤ b) ∧ S'.Nodup
theorem Upd.refl {S : List Nat} (H : AH) (hn : S.Nodup) : Upd S H H S := ⟨Nat.le_refl _, fun _ _ _ h => h, fun _ h => .inl h, hn⟩
theorem Upd.trans {S S' S'' : List Nat} {H H' H'' : AH} (hw : H.wf) (h : Upd S H H' S') (k : Upd S' H' H'' S'') : Upd S H H'' S'' := by
  refine ⟨Nat.le_trans h.1 k.1, fun b B hb hB => k.2.1 b B (fun hm => ?_) (h.2.1 b B hb hB), fun b hb => ?_, k.2.2.2⟩
  · rcases h.2.2.1 b hm with h1 | h1
    · exact hb h1
    · have := hw.lt hB; omega
  · rcases k.2.2.1 b hb with h1 | h1
    · exact h.2.2.1 b h1
    · exact .inr (Nat.le_trans h.1 h1)
/-- What was there ahead of all that stays. -/
theorem Upd.start {S S' : List Nat} {H H1 H' : AH} (hs : Sub H H1) (h : Upd S H1 H' S') : Upd S H H' S' :=
  ⟨Nat.le_trans hs.1 h.1, fun b B hb hB => h.2.1 b B hb (hs.2 b B hB), fun b hb => (h.2.2.1 b hb).imp id (Nat.le_trans hs.1), h.2.2.2⟩
theorem Upd.idle {S : List Nat} {H H1 : AH} (hs : Sub H H1) (hn : S.Nodup) : Upd S H H1 S := ⟨hs.1, fun b B _ hB => hs.2 b B hB, fun _ h => .inl h, hn⟩
theorem Upd.sub {S S' : List Nat} {H0 H H' : AH} (hw : H0.wf) (hs : Sub H0 H) (hS : ∀ b ∈ S, H0.nxt ≤ b) (h : Upd S H H' S') : Sub H0 H' ∧ ∀ b ∈ S', H0.nxt ≤ b := by
  refine ⟨⟨Nat.le_trans hs.1 h.1, fun b B hB => h.2.1 b B (fun hm => ?_) (hs.2 b B hB)⟩, fun b hb => ?_⟩
  · have := hS b hm; have := hw.lt hB; omega
  · rcases h.2.2.1 b hb with h1 | h1
    · exact hS b h1
    · exact Nat.le_trans hs.1 h1
theorem Upd.own {α : Type} [Ob α] [Own α] {S S' T : List Nat} {H H' : AH} {v : AV} {xs : List α} (h : Upd S H H' S') (k : OwnS H T v xs) (hd : ∀ b ∈ T, b ∉ S) : OwnS H' T v xs :=
  k.eq fun b hb => by obtain ⟨B, hB⟩ := Option.isSome_iff_exists.1 (k.isin b hb); rw [hB, h.2.1 b B (hd b hb) hB]
theorem Upd.ofSub {S : List Nat} {H H' : AH} (h : Sub H H') {S' : List Nat} (hf : Fresh H.nxt S') : Upd S H H' S' := ⟨h.1, fun b B _ hB => h.2 b B hB, fun b hb => .inr (hf.2 b hb), hf.1⟩
theorem Upd.ofSet {b : Nat} {H : AH} {B : Blk} : Upd [b] H (H.set b B) [b] := ⟨Nat.le_refl _, fun x B' hx hB => by rw [blk_set, if_neg (by simpa using hx)]; exact hB, fun x hx => .inl hx, by simp⟩
/-- A slice in new blocks, handed on to a function that takes it over. -/
theorem NewS.upd {α : Type} [Ob α] [Own α] {H0 H H' : AH} {v : AV} {xs : List α} {S S' : List Nat} (hw : H0.wf) (hs : Sub H0 H) (hf : Fresh H0.nxt S) (hu : Upd S H H' S') (ho : OwnS H' S' v xs) : NewS H0 H' v xs := by
  obtain ⟨h1, h2⟩ := hu.sub hw hs hf.2
  exact ⟨h1, S', ho, hu.2.2.2, h2⟩
theorem NewS.slr {α : Type} [Ob α] [Own α] {W0 : World} {H H' : AH} {v : AV} {xs : List α} (h : NewS H H' v xs) : SlR W0 H' v xs := by obtain ⟨_, S, ho, _⟩ := h; exact ho.slr
theorem NewS.more {α : Type} [Ob α] [Own α] {H H' H'' : AH} {v : AV} {xs : List α} (h : NewS H H' v xs) (hs : Sub H' H'') : NewS H H'' v xs := by
  obtain ⟨h1, S, ho, hf⟩ := h
  exact ⟨h1.trans hs, S, ho.sub hs, hf⟩
theorem NewS.start {α : Type} [Ob α] [Own α] {H0 H H' : AH} {v : AV} {xs : List α} (h : NewS H H' v xs) (hs : Sub H0 H) : NewS H0 H' v xs := by
  obtain ⟨h1, S, ho, hf⟩ := h
  exact ⟨hs.trans h1, S, ho, hf.le hs.1⟩
theorem NewV.more {α : Type} [Ob α] [Own α] {H H' H'' : AH} {v : AV} {x : α} (h : NewV H H' v x) (hs : Sub H' H'') : NewV H H'' v x := by
  obtain ⟨h1, S, cs, e, ho, hf⟩ := h
  exact ⟨h1.trans hs, S, cs, e, Own.sub ho hs, hf⟩
end
section
/-! The calculus 'Aw' at work, part 13: rules for lists of numbers that are owned; copies. -/
open Go Go.RowKit
set_option linter.unusedVariables false
set_option linter.unusedSimpArgs false
set_option linter.unusedSectionVars false
variable {P : Program} {W0 : World}
/-- An element's place, of a list of numbers. -/
theorem ixI {K : Kt} {H H' : AH} {v : AV} {xs : List Int} {g : Bool} {s b : Nat} {z : List Value} {k : IntKind} {j : Int} (h : SlR W0 H v xs) (hk : K.k (ixF s v j.toNat 0) H')
    (h0 : 0 ≤ j := by omega) (h1 : j < xs.length := by omega) (hz : s = 1 := by rfl) (hs : Sub H H' := by repeat (first | exact Sub.refl _ | assumption | refine Sub.new (by assumption) ?_ _ _ | refine Sub.kill_new (by assumption) ?_ _ _ | refine Sub.trans ?_ (by assumption))) : aixs (K := K) (some ⟨g, s, b, z⟩) v (.v (.int k j)) H' :=
  aixs_sl h hk hs hz h0 h1
theorem rdI {K : Kl} {H H' : AH} {v : AV} {xs : List Int} {s j : Nat} (h : SlR W0 H v xs) (hk : K.k [.v (.int .i64 (xs.getD j 0))]) (hj : j < xs.length := by omega) (hz : s = 1 := by rfl) (hs : Sub H H' := by repeat (first | exact Sub.refl _ | assumption | refine Sub.new (by assumption) ?_ _ _ | refine Sub.kill_new (by assumption) ?_ _ _ | refine Sub.trans ?_ (by assumption))) : aK (K := K) (rdCells W0 H' 1 (ixF s v j 0)) := by
  refine aK_sl (f := 0) h hj (fun cs hc => ?_) hs hz (by subst hz; exact Nat.le_refl _)
  obtain ⟨rfl, -⟩ := hc
  rw [List.getD_eq_getElem?_getD, List.getElem?_eq_getElem hj] at hk
  exact hk
theorem stI {K : Kt} {H : AH} {S : List Nat} {v : AV} {xs : List Int} {s j : Nat} {n : Int} {g : Bool} {b : Nat} {z : List Value} (ho : OwnS H S v xs) (hw : H.wf) (k : ∀ H', H'.wf → Chg S H H' → OwnS H' S v (xs.set j n) → K.k .dead H')
    (hn : inI64 n := by (simp only [inI64]; omega)) (hj : j < xs.length := by omega) (hz : s = 1 := by rfl) : astore' (K := K) (some ⟨g, 1, b, z⟩) (ixF s v j 0) (.v (.int .i64 n)) H := by
  subst hz
  obtain ⟨b', o, pre, mid, post, S1, S2, S3, rfl, hB, hp, hm, hS, hown, put⟩ := ho.get j hj
  obtain ⟨rfl, rfl, -⟩ := hown
  simp only [Ob.n, Nat.mul_one] at hp hB
  have hbS : b' ∈ S := by rw [hS]; exact List.mem_cons_self ..
  simp only [ixF, Nat.mul_one, Nat.add_zero, astore', astore, hB, cellsA_int]
  refine ⟨rfl, by simp [hp], rfl, ?_⟩
  have e : wr (pre ++ ([AV.v (.int .i64 xs[j])] ++ post)) (o + j) [AV.v (.int .i64 n)] = pre ++ ([AV.v (.int .i64 n)] ++ post) := by
    rw [wr_pre0 hp]; simp [wr]
  rw [e]
  have hS1 : S1 ++ S3 = [] := by
    rcases ho.flat with ⟨h, -, -⟩ | ⟨_, _, _, _, _, _, _, h, _, _⟩
    · cases h
    · rw [hS] at h; simp at h; simp [h.2]
  refine k _ (hw.set (hw.lt hB) _) ((Chg.refl _ _).set hbS _) ?_
  rw [hS]
  exact put _ [] _ n (blk_set_self _ _ _) (fun x hx => by rw [hS1] at hx; cases hx) ⟨rfl, rfl, hn⟩
theorem SlR.cases {α : Type} [Ob α] {H : AH} {v : AV} {xs : List α} (h : SlR W0 H v xs) : (∃ b o n, v = .sl b o n) ∨ (∃ n c, v = .v (.slice none n c) ∧ xs = []) ∨ ∃ a n c, v = .v (.slice (some a) n c) := by
  obtain ⟨e1, e2, cs, e3, e4⟩ := h
  unfold slN at e1
  split at e1
  · exact .inl ⟨_, _, _, rfl⟩
  · rename_i a n c
    cases a with
    | some a => exact .inr (.inr ⟨_, _, _, rfl⟩)
    | none =>
      refine .inr (.inl ⟨_, _, rfl, ?_⟩)
      unfold slCells at e3
      simp only at e3
      split at e3
      · exact List.eq_nil_of_length_eq_zero (by assumption)
      · cases e3
  · cases e1
/-- A list, copied behind an empty slice that is new. -/
theorem app_new {α : Type} [Ob α] [Own α] [Flat α] {K : Kt} {H0 H : AH} {v : AV} {xs : List α} {g : Bool} {s by' : Nat} {z : List Value} {b : Nat} (hv : SlR W0 H0 v xs) (hs0 : Sub H0 H) (hB : H.blk b = some ⟨[], s⟩) (hb : H0.nxt ≤ b) (hw : H0.wf) (k : ∀ H', Sub H0 H' → NewS H0 H' (.sl H.nxt 0 xs.length) xs → K.k (.sl H.nxt 0 xs.length) H')
    (h3 : xs.length * by' ≤ 140737488355328 := by omega) (hz : s = Ob.n α := by rfl) (g1 : 0 < s := by decide) (g2 : 0 < by' := by decide) (g3 : z.length = s := by rfl) : aapp (K := K) P W0 H (some ⟨g, s, by', z⟩) (.sl b 0 0) v := by
  subst hz
  obtain ⟨h1, h2, cs, hc, hr⟩ := hv.sub hs0
  obtain ⟨rfl, hok⟩ := Reps.flat Flat.rep_enc hr
  have hl := lenA_of (slN_len h1)
  have hel := encL_len hok
  rw [aapp_sl, hl]
  simp only [hB, hc]
  rw [aapp2_some]
  refine ⟨g1, g2, g3, hr.leaf, rfl, by simp, by rw [Nat.zero_add]; exact h3, ?_⟩
  simp only [Nat.zero_add, Nat.zero_mul, List.drop_nil, List.take_nil, List.nil_append]
  have hsub : Sub H0 ((H.kill b).new (encL xs) (Ob.n α)) := by
    refine ⟨Nat.le_succ_of_le hs0.1, fun x B hx => ?_⟩
    have := hw.lt hx
    have h4 := hs0.1
    rw [blk_new, if_neg (show ¬ x = (H.kill b).nxt from by rw [nxt_kill]; omega), blk_kill, if_neg (by omega)]
    exact hs0.2 x B hx
  exact k _ hsub ⟨hsub, [H.nxt], OwnS.ofFlat (cs := encL xs) (blk_new_self _ _ _) (by rw [List.drop_zero]; exact List.take_of_length_le (by rw [hel]; exact Nat.le_refl _)) (by rw [hel]; omega) h2 hok rfl, by simp [Fresh, hs0.1]⟩
theorem Chg.newS {S : List Nat} {H0 H H' : AH} {v : AV} {ys : List Int} (hw : H0.wf) (hs : Sub H0 H) (hf : Fresh H0.nxt S) (g : Chg S H H') (o : OwnS H' S v ys) : NewS H0 H' v ys :=
  ⟨⟨Nat.le_trans hs.1 (Nat.le_of_eq g.1.symm), fun b B hB => (g.2 b (fun hm => by have := hf.2 b hm; have := hw.lt hB; omega)).trans (hs.2 b B hB)⟩, S, o, hf⟩
theorem Fresh.app {n : Nat} {S T : List Nat} (h : Fresh n S) (k : Fresh n T) (hd : ∀ b ∈ S, b ∉ T) : Fresh n (S ++ T) := by
  refine ⟨List.nodup_append.2 ⟨h.1, k.1, fun a ha b hb hab => hd a ha (hab ▸ hb)⟩, fun b hb => ?_⟩
  rcases List.mem_append.1 hb with hb | hb
  · exact h.2 b hb
  · exact k.2 b hb
end
section
/-! The calculus 'Aw' at work, part 14: tools for the laws whose results own memory. -/
open Go Go.RowKit
set_option linter.unusedVariables false
set_option linter.unusedSectionVars false
theorem Fresh.left {n : Nat} {S T : List Nat} (h : Fresh n (S ++ T)) : Fresh n S := ⟨(List.nodup_append.1 h.1).1, fun b hb => h.2 b (List.mem_append_left _ hb)⟩
theorem Fresh.right {n : Nat} {S T : List Nat} (h : Fresh n (S ++ T)) : Fresh n T := ⟨(List.nodup_append.1 h.1).2.1, fun b hb => h.2 b (List.mem_append_right _ hb)⟩
theorem Upd.ownV {α : Type} [Ob α] [Own α] {S S' T : List Nat} {H H' : AH} {cs : List AV} {x : α} (h : Upd S H H' S') (k : Own.own H T cs x) (hd : ∀ b ∈ T, b ∉ S) : Own.own H' T cs x :=
  Own.eq k fun b hb => by obtain ⟨B, hB⟩ := Option.isSome_iff_exists.1 (Own.isin k b hb); rw [hB, h.2.1 b B (hd b hb) hB]
/-- How many marks a value takes, at most. -/
class CntB (α : Type) [Ob α] [Mk α] : Prop where
  le : ∀ x : α, Mk.cnt x ≤ 20 * (Ob.sz x + 1)
theorem cntL_le {α : Type} [Ob α] [Mk α] [CntB α] (xs : List α) : cntL xs ≤ 20 * Ob.sz xs := by
  show cntL xs ≤ 20 * (xs.length + (xs.map Ob.sz).sum)
  induction xs with
  | nil => simp [cntL]
  | cons x xs ih =>
    rw [cntL_cons]
    have := CntB.le x
    simp only [List.length_cons, List.map_cons, List.sum_cons]
    omega
instance : CntB Int := ⟨fun x => by show 1 ≤ 20 * (0 + 1); omega⟩
instance : CntB OpD := ⟨fun x => by show 4 ≤ 20 * (Ob.sz x + 1); omega⟩
instance : CntB RowD := ⟨fun x => by show 10 ≤ 20 * (Ob.sz x + 1); omega⟩
instance : CntB KRowD := ⟨fun x => by show 2 ≤ 20 * (Ob.sz x + 1); omega⟩
instance : CntB QueueD := ⟨fun x => by show cntL x.ops ≤ 20 * (Ob.sz x.ops + 1); have := cntL_le x.ops; omega⟩
instance : CntB JobD := ⟨fun x => by show 16 + cntL x.keys + cntL x.raw ≤ 20 * (Ob.sz x.op + Ob.sz x.keys + Ob.sz x.raw + 1); have := cntL_le x.keys; have := cntL_le x.raw; omega⟩
instance : CntB EvD := ⟨fun x => by show 12 + cntL x.rows ≤ 20 * (Ob.sz x.op + Ob.sz x.rows + 1); have := cntL_le x.rows; omega⟩
instance : CntB WorldD := ⟨fun x => by
  show cntL x.cells + cntL x.jobs + cntL x.todo + cntL x.log ≤ 20 * (Ob.sz x.cells + Ob.sz x.jobs + Ob.sz x.todo + Ob.sz x.log + 1)
  have := cntL_le x.cells; have := cntL_le x.jobs; have := cntL_le x.todo; have := cntL_le x.log; omega⟩
instance : CntB ScriptD := ⟨fun x => by show cntL x.todo + cntL x.picks ≤ 20 * (Ob.sz x.todo + Ob.sz x.picks + 1); have := cntL_le x.todo; have := cntL_le x.picks; omega⟩
instance : CntB ModelD := ⟨fun x => by show cntL x.keys + cntL x.rows ≤ 20 * (Ob.sz x.keys + Ob.sz x.rows + 1); have := cntL_le x.keys; have := cntL_le x.rows; omega⟩
theorem cnt_le_S {α : Type} [Ob α] [Mk α] [CntB α] {x : List α} (h : Ob.sz x ≤ 1048576) : cntL x ≤ 20971520 := by have := cntL_le x; omega
theorem cnt_le_V {α : Type} [Ob α] [Mk α] [CntB α] {x : α} (h : Ob.sz x ≤ 1048576) : Mk.cnt x ≤ 20971540 := by have := CntB.le x; omega
theorem cntL_int (xs : List Int) : cntL xs = xs.length := by
  induction xs with
  | nil => rfl
  | cons x xs ih => rw [cntL_cons, ih]; show 1 + xs.length = xs.length + 1; omega
theorem cntL_row (xs : List RowD) : cntL xs = 10 * xs.length := by
  induction xs with
  | nil => rfl
  | cons x xs ih => rw [cntL_cons, ih]; show 10 + 10 * xs.length = 10 * (xs.length + 1); omega
end
section
/-! The calculus 'Aw' at work, part 15: one more element behind a list that owns its memory. -/
open Go Go.RowKit
set_option linter.unusedVariables false
set_option linter.unusedSimpArgs false
set_option linter.unusedSectionVars false
variable {P : Program} {W0 : World}
theorem slCells_one {H : AH} {c : List AV} {s b : Nat} (hB : H.blk b = some ⟨c, s⟩) (hl : c.length = s) : slCells W0 H s 1 (.sl b 0 1) = some c := by
  simp only [slCells, Nat.le_refl, if_true, hB, Option.bind_some, true_and, Nat.zero_add, Nat.one_mul, hl, List.drop_zero]
  rw [List.take_of_length_le (by omega)]
/-- One element, with what it owns, behind a list that owns its memory. -/
theorem app_one {α : Type} [Ob α] [Own α] {K : Kt} {H : AH} {S S2 : List Nat} {v : AV} {xs : List α} {x : α} {c : List AV} {g : Bool} {s by' : Nat} {z : List Value} {bn : Nat} (ho : OwnS H S v xs) (hc : Own.own H S2 c x) (hn : (S ++ S2).Nodup) (hw : H.wf)
    (hB : H.blk bn = some ⟨c, s⟩) (hbn : bn ∉ S) (k : ∀ H' S' v', H'.wf → OwnS H' S' v' (xs ++ [x]) → Upd (S ++ S2) H H' S' → H.nxt < H'.nxt → K.k v' H')
    (h3 : (xs.length + 1) * by' ≤ 140737488355328 := by omega) (hb : xs.length + 1 ≤ big := by (simp only [big]; omega)) (hz : s = Ob.n α := by rfl) (g1 : 0 < s := by decide) (g2 : 0 < by' := by decide) (g3 : z.length = s := by rfl) : aapp (K := K) P W0 H (some ⟨g, s, by', z⟩) v (.sl bn 0 1) := by
  subst hz
  have hcl : c.length = Ob.n α := Ob.len (Own.rep (W0 := W0) hc)
  have hlf : c.all leafA = true := Ob.leaf (Own.rep (W0 := W0) hc)
  have hcells := slCells_one (W0 := W0) hB hcl
  have hS2lt : ∀ b ∈ S2, b < H.nxt := fun b hb => hw.lt' (Own.isin hc b hb)
  have hSlt : ∀ b ∈ S, b < H.nxt := fun b hb => hw.lt' (ho.isin b hb)
  obtain ⟨n1, n2, n3⟩ := List.nodup_append.1 hn
  rcases ho with ⟨rfl, rfl, rfl⟩ | ⟨b, o, cs, T, rfl, hBb, hle, hbg, rfl, hO⟩
  · refine app_nil (new := c) hcells rfl hlf (by simpa using h3) (fun h => absurd h (by decide)) (fun _ => ?_) g1 g2 g3
    have hne : ∀ b ∈ S2, (H.new c (Ob.n α)).blk b = H.blk b := fun b hb => by rw [blk_new, if_neg (by have := hS2lt b hb; omega)]
    refine k _ (H.nxt :: S2) _ (hw.new _ _) (.inr ⟨H.nxt, 0, c, S2, by simp, blk_new_self _ _ _, by simp [hcl], by simpa using hb, rfl, ?_⟩) ⟨Nat.le_succ _, fun b B hb' hB' => ?_, fun b hb' => ?_, ?_⟩ (Nat.lt_succ_self _)
    · rw [List.drop_zero, List.take_of_length_le (by simp [hcl])]
      exact Owns.one (Own.eq hc hne)
    · rw [blk_new, if_neg (by have := hw.lt hB'; omega)]; exact hB'
    · rcases List.mem_cons.1 hb' with rfl | hb'
      · exact .inr (Nat.le_refl _)
      · exact .inl (by simpa using hb')
    · exact List.nodup_cons.2 ⟨fun hm => by have := hS2lt _ hm; omega, n2⟩
  · rw [aapp_own, hcells, hBb, aapp2_some]
    refine ⟨g1, g2, g3, hlf, rfl, hle, h3, ?_⟩
    have hcsl : ((cs.drop o).take (xs.length * Ob.n α)).length = xs.length * Ob.n α := by simp; omega
    have hbT : b ∉ T := (List.nodup_cons.1 n1).1
    have hbS2 : b ∉ S2 := fun hm => n3 b (List.mem_cons_self ..) b hm rfl
    have hblk : ∀ x, x ≠ b → x < H.nxt → ((H.kill b).new ((cs.drop o).take (xs.length * Ob.n α) ++ c) (Ob.n α)).blk x = H.blk x := fun x hx hlt => by
      rw [blk_new, if_neg (show ¬ x = (H.kill b).nxt from by rw [nxt_kill]; omega), blk_kill, if_neg hx]
    refine k _ (H.nxt :: (T ++ S2)) _ ((hw.kill b).new _ _) (.inr ⟨H.nxt, 0, _, T ++ S2, by simp, blk_new_self (H.kill b) _ _, ?_, by simpa using hb, rfl, ?_⟩) ⟨Nat.le_succ _, fun y B hy hB' => ?_, fun y hy => ?_, ?_⟩ (Nat.lt_succ_self _)
    · simp only [List.length_append, hcsl, hcl, List.length_singleton, Nat.add_mul, Nat.one_mul, Nat.zero_add]; omega
    · have htk : ((cs.drop o).take (xs.length * Ob.n α) ++ c).length ≤ (xs ++ [x]).length * Ob.n α := by simp only [List.length_append, hcsl, hcl, List.length_singleton, Nat.add_mul, Nat.one_mul]; omega
      rw [List.drop_zero, List.take_of_length_le htk]
      exact (hO.eq fun y hy => hblk y (fun h => hbT (h ▸ hy)) (hSlt y (List.mem_cons_of_mem _ hy))).append (Owns.one (Own.eq hc fun y hy => hblk y (fun h => hbS2 (h ▸ hy)) (hS2lt y hy)))
    · rw [hblk y (fun h => hy (by rw [h]; exact List.mem_append_left _ (List.mem_cons_self ..))) (hw.lt hB')]; exact hB'
    · rcases List.mem_cons.1 hy with rfl | hy
      · exact .inr (Nat.le_refl _)
      · refine .inl ?_
        rcases List.mem_append.1 hy with hy | hy
        · exact List.mem_append_left _ (List.mem_cons_of_mem _ hy)
        · exact List.mem_append_right _ hy
    · refine List.nodup_cons.2 ⟨fun hm => ?_, List.nodup_append.2 ⟨(List.nodup_cons.1 n1).2, n2, fun a ha b hb => n3 a (List.mem_cons_of_mem _ ha) b hb⟩⟩
      rcases List.mem_append.1 hm with hm | hm
      · have := hSlt _ (List.mem_cons_of_mem _ hm); omega
      · have := hS2lt _ hm; omega
/-- One element behind a list whose elements lie in memory that stays; the list's own block is new. -/
theorem app_rep {α : Type} [Ob α] {K : Kt} {H0 H : AH} {b m bn : Nat} {cs c : List AV} {xs : List α} {x : α} {g : Bool} {s by' : Nat} {z : List Value} (hs : Sub H0 H) (hw0 : H0.wf) (hw : H.wf) (hb : H0.nxt ≤ b) (hBb : H.blk b = some ⟨cs, s⟩) (hm : m = xs.length) (hr : Reps W0 H0 cs xs) (hc : Ob.rep W0 H0 c x)
    (hB : H.blk bn = some ⟨c, s⟩) (k : ∀ H', H'.wf → Sub H0 H' → H'.blk H.nxt = some ⟨cs ++ c, s⟩ → Reps W0 H0 (cs ++ c) (xs ++ [x]) → H.nxt < H'.nxt → K.k (.sl H.nxt 0 (m + 1)) H')
    (h3 : (m + 1) * by' ≤ 140737488355328 := by omega) (hz : s = Ob.n α := by rfl) (g1 : 0 < s := by decide) (g2 : 0 < by' := by decide) (g3 : z.length = s := by rfl) : aapp (K := K) P W0 H (some ⟨g, s, by', z⟩) (.sl b 0 m) (.sl bn 0 1) := by
  subst hz hm
  have hcl : c.length = Ob.n α := Ob.len hc
  have hlf : c.all leafA = true := Ob.leaf hc
  have hcells := slCells_one (W0 := W0) hB hcl
  have hl := hr.len
  rw [aapp_own, hcells, hBb, aapp2_some]
  refine ⟨g1, g2, g3, hlf, rfl, by omega, h3, ?_⟩
  rw [List.drop_zero, List.take_of_length_le (by omega)]
  refine k _ ((hw.kill b).new _ _) ⟨Nat.le_succ_of_le hs.1, fun y B hy => ?_⟩ (blk_new_self (H.kill b) _ _) (hr.append (by have := Reps.cons hc (.nil (W0 := W0) (H := H0)); rwa [List.append_nil] at this)) (Nat.lt_succ_self _)
  have h1 := hw0.lt hy
  have h2 := hs.1
  rw [blk_new, if_neg (show ¬ y = (H.kill b).nxt from by rw [nxt_kill]; omega), blk_kill, if_neg (by omega)]
  exact hs.2 y B hy
end
section
/-! The calculus 'Aw' at work, part 16: more tools for what is owned. -/
open Go Go.RowKit
set_option linter.unusedVariables false
set_option linter.unusedSimpArgs false
set_option linter.unusedSectionVars false
theorem mem_I {W0 : World} {H : AH} {v : AV} {a : List Int} (ha : SlR W0 H v a) : ∀ x ∈ a, inI64 x := fun x hx => by
  obtain ⟨i, hi, rfl⟩ := List.mem_iff_getElem.1 hx
  obtain ⟨cs, -, -, h⟩ := ha.rd i hi
  exact h
theorem OwnS.step {α : Type} [Ob α] [Own α] {H1 H2 : AH} {S : List Nat} {v : AV} {xs : List α} {l : Nat} {B : Blk} (h : OwnS H1 S v xs) (hne : ∀ b ∈ S, b ≠ l) (hs : Sub (H1.set l B) H2) : OwnS H2 S v xs :=
  (h.eq (H' := H1.set l B) fun b hb => blk_set_ne _ (hne b hb) _).sub hs
theorem OwnS.chg2 {α : Type} [Ob α] [Own α] {H1 : AH} {S : List Nat} {v : AV} {xs : List α} {l m : Nat} {B B' : Blk} (h : OwnS H1 S v xs) (hne : ∀ b ∈ S, b ≠ l ∧ b ≠ m) : OwnS ((H1.set l B).set m B') S v xs :=
  h.eq fun b hb => by rw [blk_set_ne _ (hne b hb).2, blk_set_ne _ (hne b hb).1]
theorem OwnS.one {α : Type} [Ob α] [Own α] {H : AH} {S : List Nat} {v : AV} {xs : List α} (h : OwnS H S v xs) : cellsA v = some [v] := (h.slr (W0 := default)).one
theorem OwnS.leaf {α : Type} [Ob α] [Own α] {H : AH} {S : List Nat} {v : AV} {xs : List α} (h : OwnS H S v xs) : leafA v = true := (h.slr (W0 := default)).leaf
theorem eq_of_nbeq {a b : Bool} (h : (!(a == b)) = false) : a = b := by simpa using h
theorem ne_of_nbeq {a : Bool} (h : (!(a == a)) = true) : False := by simp at h
variable {P : Program} {W0 : World}
theorem newK {α : Type} [Ob α] [Own α] {K : Kt} {g : FuncId} {xs : List AV} {H : AH} {x : α} (h : ACalls P W0 g xs H (fun v H' => NewV H H' v x)) (k : ∀ H' c, Sub H H' → H'.wf → Ob.rep W0 H' c x → K.k (.agg c) H') : ACallK (K := K) P W0 g xs H :=
  ACallK.of h.cl (by rintro _ H' ⟨⟨hs, S, c, rfl, ho, _⟩, hc⟩; exact k H' c hs hc.1 (Own.rep ho))
theorem newSK {α : Type} [Ob α] [Own α] {K : Kt} {g : FuncId} {ys : List AV} {H : AH} {x : List α} (h : ACalls P W0 g ys H (fun v H' => NewS H H' v x)) (k : ∀ H' v, Sub H H' → H'.wf → SlR W0 H' v x → K.k v H') : ACallK (K := K) P W0 g ys H :=
  ACallK.of h.cl (by rintro v H' ⟨⟨hs, S, ho, _⟩, hc⟩; exact k H' v hs hc.1 ho.slr)
/-- What is in focus, by itself. -/
theorem foc_parts {S S1 S2 S3 : List Nat} {b : Nat} (hS : S = b :: (S1 ++ (S2 ++ S3))) (hn : S.Nodup) : S2.Nodup ∧ (∀ x ∈ S2, x ≠ b) ∧ b ∉ S2 ∧ (∀ x ∈ S1 ++ S3, x ∉ S2) ∧ ∀ x ∈ S2, x ∈ S := by
  subst hS
  obtain ⟨h1, h2⟩ := List.nodup_cons.1 hn
  obtain ⟨h3, h4, h5⟩ := List.nodup_append.1 h2
  obtain ⟨h6, h7, h8⟩ := List.nodup_append.1 h4
  have hb : ∀ x ∈ S2, x ∈ S1 ++ (S2 ++ S3) := fun x hx => List.mem_append_right _ (List.mem_append_left _ hx)
  refine ⟨h6, fun x hx hxb => h1 (hxb ▸ hb x hx), fun hm => h1 (hb b hm), fun x hx hm => ?_, fun x hx => List.mem_cons_of_mem _ (hb x hx)⟩
  rcases List.mem_append.1 hx with hx | hx
  · exact h5 x hx x (List.mem_append_left _ hm) rfl
  · exact h8 x hm x hx rfl
theorem nd_two {A B : List Nat} (h : (A ++ B).Nodup) : A.Nodup ∧ B.Nodup ∧ (∀ x ∈ A, x ∉ B) ∧ (∀ x ∈ B, x ∉ A) := by
  obtain ⟨h1, h2, h3⟩ := List.nodup_append.1 h
  exact ⟨h1, h2, fun x hx hm => h3 x hx x hm rfl, fun x hx hm => h3 x hm x hx rfl⟩
theorem OwnS.setne {α : Type} [Ob α] [Own α] {H : AH} {S : List Nat} {v : AV} {xs : List α} {b : Nat} {B : Blk} (h : OwnS H S v xs) (hne : ∀ x ∈ S, x ≠ b) : OwnS (H.set b B) S v xs := h.eq fun x hx => blk_set_ne _ (hne x hx) _
theorem Chg.upd {S : List Nat} {a b : AH} (h : Chg S a b) (hn : S.Nodup) : Upd S a b S := ⟨Nat.le_of_eq h.1.symm, fun x B hx hB => (h.2 x hx).trans hB, fun _ hx => .inl hx, hn⟩
theorem Chg.left {S T : List Nat} {a b : AH} (h : Chg S a b) : Chg (S ++ T) a b := h.sub fun x hx => List.mem_append_left _ hx
theorem Chg.right {S T : List Nat} {a b : AH} (h : Chg T a b) : Chg (S ++ T) a b := h.sub fun x hx => List.mem_append_right _ hx
end
end Go.Proofs.YtipfnhfcoolhaaaGreat.Aw
