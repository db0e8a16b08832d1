/- Who owns what, and the marks, at the program's records. Printed by gen2.py. -/
import Derived.Test.YthcjolappblieaaOd
namespace Go.Proofs.Ythcjolappblieaa.Aw
open Go Go.RowKit
set_option linter.unusedVariables false
set_option linter.unusedSimpArgs false
/-- The text of a mark. -/
def mdig : Nat → Int → ByteArray → ByteArray
  | 0, _, out => out
  | f + 1, k, out => if 0 < k then mdig f (k / 10) (strOfNums [48 + k % 10] ++ out) else out
def mtext (k : Int) : ByteArray := if k ≤ 0 then ⟨#[109, 48]⟩ else ⟨#[109]⟩ ++ mdig 20 k ⟨#[]⟩
theorem mdig_size : ∀ (f : Nat) (k : Int) (out : ByteArray), (mdig f k out).size ≤ f + out.size
  | 0, _, _ => by simp [mdig]
  | f + 1, k, out => by
    unfold mdig
    split
    · have := mdig_size f (k / 10) (strOfNums [48 + k % 10] ++ out)
      rw [ByteArray.size_append, strOfNums_size] at this
      simp at this
      omega
    · omega
theorem mtext_size (k : Int) : (mtext k).size ≤ 21 := by
  unfold mtext
  split
  · decide
  · rw [ByteArray.size_append]
    have := mdig_size 20 k ⟨#[]⟩
    have h0 : (⟨#[]⟩ : ByteArray).size = 0 := rfl
    have h1 : (⟨#[109]⟩ : ByteArray).size = 1 := rfl
    omega
instance : Own OpD where
  own H S cs x := S = [] ∧ cs = [.v (.int .i64 x.kind), .v (.string x.key), .v (.int .i64 x.what), .v (.int .i64 x.val)] ∧ inI64 x.kind ∧ x.key.size ≤ big ∧ inI64 x.what ∧ inI64 x.val
  rep := by
    rintro _ _ _ _ _ ⟨rfl, rfl, f0, f1, f2, f3⟩
    exact ⟨rfl, f0, f1, f2, f3⟩
  eq := by
    rintro _ _ _ _ _ ⟨rfl, rfl, f0, f1, f2, f3⟩ k
    exact ⟨rfl, rfl, f0, f1, f2, f3⟩
  isin := by
    rintro _ _ _ _ ⟨rfl, rfl, f0, f1, f2, f3⟩ b hb
    cases hb
instance : Mk OpD where
  cnt x := 4
  put x k := ⟨k, mtext (k + 1), k + 1 + 1, k + 1 + 1 + 1⟩
instance : Own RowD where
  own H S cs x := S = [] ∧ cs = [.v (.string x.key), .v (.int .i64 x.kind), .v (.int .i64 x.sum), .v (.bool x.set), .v (.int .i64 x.last), .v (.int .i64 x.n), .v (.int .i64 x.mn), .v (.int .i64 x.mx), .v (.int .i64 x.total), .v (.int .i64 x.dropped)] ∧ x.key.size ≤ big ∧ inI64 x.kind ∧ inI64 x.sum ∧ inI64 x.last ∧ inI64 x.n ∧ inI64 x.mn ∧ inI64 x.mx ∧ inI64 x.total ∧ inI64 x.dropped
  rep := by
    rintro _ _ _ _ _ ⟨rfl, rfl, f0, f1, f2, f3, f4, f5, f6, f7, f8⟩
    exact ⟨rfl, f0, f1, f2, f3, f4, f5, f6, f7, f8⟩
  eq := by
    rintro _ _ _ _ _ ⟨rfl, rfl, f0, f1, f2, f3, f4, f5, f6, f7, f8⟩ k
    exact ⟨rfl, rfl, f0, f1, f2, f3, f4, f5, f6, f7, f8⟩
  isin := by
    rintro _ _ _ _ ⟨rfl, rfl, f0, f1, f2, f3, f4, f5, f6, f7, f8⟩ b hb
    cases hb
instance : Mk RowD where
  cnt x := 10
  put x k := ⟨mtext (k), k + 1, k + 1 + 1, decide ((k + 1 + 1 + 1) % 3 = 0), k + 1 + 1 + 1 + 1, k + 1 + 1 + 1 + 1 + 1, k + 1 + 1 + 1 + 1 + 1 + 1, k + 1 + 1 + 1 + 1 + 1 + 1 + 1, k + 1 + 1 + 1 + 1 + 1 + 1 + 1 + 1, k + 1 + 1 + 1 + 1 + 1 + 1 + 1 + 1 + 1⟩
instance : Own KRowD where
  own H S cs x := S = [] ∧ cs = [.v (.string x.key), .v (.int .i64 x.kind)] ∧ x.key.size ≤ big ∧ inI64 x.kind
  rep := by
    rintro _ _ _ _ _ ⟨rfl, rfl, f0, f1⟩
    exact ⟨rfl, f0, f1⟩
  eq := by
    rintro _ _ _ _ _ ⟨rfl, rfl, f0, f1⟩ k
    exact ⟨rfl, rfl, f0, f1⟩
  isin := by
    rintro _ _ _ _ ⟨rfl, rfl, f0, f1⟩ b hb
    cases hb
instance : Mk KRowD where
  cnt x := 2
  put x k := ⟨mtext (k), k + 1⟩
instance : Own QueueD where
  own H S cs x := ∃ v_ops S_ops, S = S_ops ∧ cs = [v_ops] ∧ OwnS H S_ops v_ops x.ops
  rep := by
    rintro _ _ _ _ _ ⟨v_ops, S_ops, rfl, rfl, f0⟩
    exact ⟨v_ops, rfl, f0.slr⟩
  eq := by
    rintro _ _ _ _ _ ⟨v_ops, S_ops, rfl, rfl, f0⟩ k
    exact ⟨v_ops, _, rfl, rfl, f0.eq fun b hb => k b (hb)⟩
  isin := by
    rintro _ _ _ _ ⟨v_ops, S_ops, rfl, rfl, f0⟩ b hb
    exact f0.isin b hb
instance : Mk QueueD where
  cnt x := cntL x.ops
  put x k := ⟨putL x.ops k⟩
instance : Own JobD where
  own H S cs x := ∃ v_keys v_raw S_keys S_raw, S = S_keys ++ S_raw ∧ cs = [.v (.bool x.busy), .v (.int .i64 x.op.kind), .v (.string x.op.key), .v (.int .i64 x.op.what), .v (.int .i64 x.op.val), .v (.int .i64 x.serial), .v (.int .i64 x.pc), .v (.int .i64 x.k), .v (.int .i64 x.slot), .v (.int .i64 x.what), .v (.int .i64 x.e), .v (.int .i64 x.stamp), .v (.int .i64 x.old), .v (.int .i64 x.flips), .v (.int .i64 x.steps), .v (.int .i64 x.code), v_keys, v_raw] ∧ inI64 x.op.kind ∧ x.op.key.size ≤ big ∧ inI64 x.op.what ∧ inI64 x.op.val ∧ inI64 x.serial ∧ inI64 x.pc ∧ inI64 x.k ∧ inI64 x.slot ∧ inI64 x.what ∧ inI64 x.e ∧ inI64 x.stamp ∧ inI64 x.old ∧ inI64 x.flips ∧ inI64 x.steps ∧ inI64 x.code ∧ OwnS H S_keys v_keys x.keys ∧ OwnS H S_raw v_raw x.raw
  rep := by
    rintro _ _ _ _ _ ⟨v_keys, v_raw, S_keys, S_raw, rfl, rfl, f0, f1, f2, f3, f4, f5, f6, f7, f8, f9, f10, f11, f12, f13, f14, f15, f16⟩
    exact ⟨v_keys, v_raw, rfl, f0, f1, f2, f3, f4, f5, f6, f7, f8, f9, f10, f11, f12, f13, f14, f15.slr, f16.slr⟩
  eq := by
    rintro _ _ _ _ _ ⟨v_keys, v_raw, S_keys, S_raw, rfl, rfl, f0, f1, f2, f3, f4, f5, f6, f7, f8, f9, f10, f11, f12, f13, f14, f15, f16⟩ k
    exact ⟨v_keys, v_raw, _, _, rfl, rfl, f0, f1, f2, f3, f4, f5, f6, f7, f8, f9, f10, f11, f12, f13, f14, f15.eq fun b hb => k b (List.mem_append_left _ hb), f16.eq fun b hb => k b (List.mem_append_right _ (hb))⟩
  isin := by
    rintro _ _ _ _ ⟨v_keys, v_raw, S_keys, S_raw, rfl, rfl, f0, f1, f2, f3, f4, f5, f6, f7, f8, f9, f10, f11, f12, f13, f14, f15, f16⟩ b hb
    rcases List.mem_append.1 hb with hb | hb
    · exact f15.isin b hb
    exact f16.isin b hb
instance : Mk JobD where
  cnt x := 16 + cntL x.keys + cntL x.raw
  put x k := ⟨decide ((k) % 3 = 0), ⟨k + 1, mtext (k + 1 + 1), k + 1 + 1 + 1, k + 1 + 1 + 1 + 1⟩, k + 1 + 1 + 1 + 1 + 1, k + 1 + 1 + 1 + 1 + 1 + 1, k + 1 + 1 + 1 + 1 + 1 + 1 + 1, k + 1 + 1 + 1 + 1 + 1 + 1 + 1 + 1, k + 1 + 1 + 1 + 1 + 1 + 1 + 1 + 1 + 1, k + 1 + 1 + 1 + 1 + 1 + 1 + 1 + 1 + 1 + 1, k + 1 + 1 + 1 + 1 + 1 + 1 + 1 + 1 + 1 + 1 + 1, k + 1 + 1 + 1 + 1 + 1 + 1 + 1 + 1 + 1 + 1 + 1 + 1, k + 1 + 1 + 1 + 1 + 1 + 1 + 1 + 1 + 1 + 1 + 1 + 1 + 1, k + 1 + 1 + 1 + 1 + 1 + 1 + 1 + 1 + 1 + 1 + 1 + 1 + 1 + 1, k + 1 + 1 + 1 + 1 + 1 + 1 + 1 + 1 + 1 + 1 + 1 + 1 + 1 + 1 + 1, putL x.keys (k + 1 + 1 + 1 + 1 + 1 + 1 + 1 + 1 + 1 + 1 + 1 + 1 + 1 + 1 + 1 + 1), putL x.raw (k + 1 + 1 + 1 + 1 + 1 + 1 + 1 + 1 + 1 + 1 + 1 + 1 + 1 + 1 + 1 + 1 + cntL x.keys)⟩
instance : Own EvD where
  own H S cs x := ∃ v_rows S_rows, S = S_rows ∧ cs = [.v (.int .i64 x.kind), .v (.int .i64 x.who), .v (.int .i64 x.serial), .v (.int .i64 x.tm), .v (.int .i64 x.op.kind), .v (.string x.op.key), .v (.int .i64 x.op.what), .v (.int .i64 x.op.val), .v (.int .i64 x.code), .v (.int .i64 x.win), .v (.int .i64 x.steps), .v (.int .i64 x.flips), v_rows] ∧ inI64 x.kind ∧ inI64 x.who ∧ inI64 x.serial ∧ inI64 x.tm ∧ inI64 x.op.kind ∧ x.op.key.size ≤ big ∧ inI64 x.op.what ∧ inI64 x.op.val ∧ inI64 x.code ∧ inI64 x.win ∧ inI64 x.steps ∧ inI64 x.flips ∧ OwnS H S_rows v_rows x.rows
  rep := by
    rintro _ _ _ _ _ ⟨v_rows, S_rows, rfl, rfl, f0, f1, f2, f3, f4, f5, f6, f7, f8, f9, f10, f11, f12⟩
    exact ⟨v_rows, rfl, f0, f1, f2, f3, f4, f5, f6, f7, f8, f9, f10, f11, f12.slr⟩
  eq := by
    rintro _ _ _ _ _ ⟨v_rows, S_rows, rfl, rfl, f0, f1, f2, f3, f4, f5, f6, f7, f8, f9, f10, f11, f12⟩ k
    exact ⟨v_rows, _, rfl, rfl, f0, f1, f2, f3, f4, f5, f6, f7, f8, f9, f10, f11, f12.eq fun b hb => k b (hb)⟩
  isin := by
    rintro _ _ _ _ ⟨v_rows, S_rows, rfl, rfl, f0, f1, f2, f3, f4, f5, f6, f7, f8, f9, f10, f11, f12⟩ b hb
    exact f12.isin b hb
instance : Mk EvD where
  cnt x := 12 + cntL x.rows
  put x k := ⟨k, k + 1, k + 1 + 1, k + 1 + 1 + 1, ⟨k + 1 + 1 + 1 + 1, mtext (k + 1 + 1 + 1 + 1 + 1), k + 1 + 1 + 1 + 1 + 1 + 1, k + 1 + 1 + 1 + 1 + 1 + 1 + 1⟩, k + 1 + 1 + 1 + 1 + 1 + 1 + 1 + 1, k + 1 + 1 + 1 + 1 + 1 + 1 + 1 + 1 + 1, k + 1 + 1 + 1 + 1 + 1 + 1 + 1 + 1 + 1 + 1, k + 1 + 1 + 1 + 1 + 1 + 1 + 1 + 1 + 1 + 1 + 1, putL x.rows (k + 1 + 1 + 1 + 1 + 1 + 1 + 1 + 1 + 1 + 1 + 1 + 1)⟩
instance : Own WorldD where
  own H S cs x := ∃ v_cells v_jobs v_todo v_log S_cells S_jobs S_todo S_log, S = S_cells ++ (S_jobs ++ (S_todo ++ (S_log))) ∧ cs = [v_cells, v_jobs, v_todo, v_log, .v (.int .i64 x.serial), .v (.int .i64 x.now)] ∧ OwnS H S_cells v_cells x.cells ∧ OwnS H S_jobs v_jobs x.jobs ∧ OwnS H S_todo v_todo x.todo ∧ OwnS H S_log v_log x.log ∧ inI64 x.serial ∧ inI64 x.now
  rep := by
    rintro _ _ _ _ _ ⟨v_cells, v_jobs, v_todo, v_log, S_cells, S_jobs, S_todo, S_log, rfl, rfl, f0, f1, f2, f3, f4, f5⟩
    exact ⟨v_cells, v_jobs, v_todo, v_log, rfl, f0.slr, f1.slr, f2.slr, f3.slr, f4, f5⟩
  eq := by
    rintro _ _ _ _ _ ⟨v_cells, v_jobs, v_todo, v_log, S_cells, S_jobs, S_todo, S_log, rfl, rfl, f0, f1, f2, f3, f4, f5⟩ k
    exact ⟨v_cells, v_jobs, v_todo, v_log, _, _, _, _, rfl, rfl, f0.eq fun b hb => k b (List.mem_append_left _ hb), f1.eq fun b hb => k b (List.mem_append_right _ (List.mem_append_left _ hb)), f2.eq fun b hb => k b (List.mem_append_right _ (List.mem_append_right _ (List.mem_append_left _ hb))), f3.eq fun b hb => k b (List.mem_append_right _ (List.mem_append_right _ (List.mem_append_right _ (hb)))), f4, f5⟩
  isin := by
    rintro _ _ _ _ ⟨v_cells, v_jobs, v_todo, v_log, S_cells, S_jobs, S_todo, S_log, rfl, rfl, f0, f1, f2, f3, f4, f5⟩ b hb
    rcases List.mem_append.1 hb with hb | hb
    · exact f0.isin b hb
    rcases List.mem_append.1 hb with hb | hb
    · exact f1.isin b hb
    rcases List.mem_append.1 hb with hb | hb
    · exact f2.isin b hb
    exact f3.isin b hb
instance : Mk WorldD where
  cnt x := cntL x.cells + cntL x.jobs + cntL x.todo + cntL x.log
  put x k := ⟨putL x.cells (k), putL x.jobs (k + cntL x.cells), putL x.todo (k + cntL x.cells + cntL x.jobs), putL x.log (k + cntL x.cells + cntL x.jobs + cntL x.todo), x.serial, x.now⟩
instance : Own ScriptD where
  own H S cs x := ∃ v_todo v_picks S_todo S_picks, S = S_todo ++ S_picks ∧ cs = [v_todo, v_picks] ∧ OwnS H S_todo v_todo x.todo ∧ OwnS H S_picks v_picks x.picks
  rep := by
    rintro _ _ _ _ _ ⟨v_todo, v_picks, S_todo, S_picks, rfl, rfl, f0, f1⟩
    exact ⟨v_todo, v_picks, rfl, f0.slr, f1.slr⟩
  eq := by
    rintro _ _ _ _ _ ⟨v_todo, v_picks, S_todo, S_picks, rfl, rfl, f0, f1⟩ k
    exact ⟨v_todo, v_picks, _, _, rfl, rfl, f0.eq fun b hb => k b (List.mem_append_left _ hb), f1.eq fun b hb => k b (List.mem_append_right _ (hb))⟩
  isin := by
    rintro _ _ _ _ ⟨v_todo, v_picks, S_todo, S_picks, rfl, rfl, f0, f1⟩ b hb
    rcases List.mem_append.1 hb with hb | hb
    · exact f0.isin b hb
    exact f1.isin b hb
instance : Mk ScriptD where
  cnt x := cntL x.todo + cntL x.picks
  put x k := ⟨putL x.todo (k), putL x.picks (k + cntL x.todo)⟩
instance : Own ModelD where
  own H S cs x := ∃ v_keys v_rows S_keys S_rows, S = S_keys ++ S_rows ∧ cs = [v_keys, v_rows] ∧ OwnS H S_keys v_keys x.keys ∧ OwnS H S_rows v_rows x.rows
  rep := by
    rintro _ _ _ _ _ ⟨v_keys, v_rows, S_keys, S_rows, rfl, rfl, f0, f1⟩
    exact ⟨v_keys, v_rows, rfl, f0.slr, f1.slr⟩
  eq := by
    rintro _ _ _ _ _ ⟨v_keys, v_rows, S_keys, S_rows, rfl, rfl, f0, f1⟩ k
    exact ⟨v_keys, v_rows, _, _, rfl, rfl, f0.eq fun b hb => k b (List.mem_append_left _ hb), f1.eq fun b hb => k b (List.mem_append_right _ (hb))⟩
  isin := by
    rintro _ _ _ _ ⟨v_keys, v_rows, S_keys, S_rows, rfl, rfl, f0, f1⟩ b hb
    rcases List.mem_append.1 hb with hb | hb
    · exact f0.isin b hb
    exact f1.isin b hb
instance : Mk ModelD where
  cnt x := cntL x.keys + cntL x.rows
  put x k := ⟨putL x.keys (k), putL x.rows (k + cntL x.keys)⟩
/-- Records that lead nowhere. -/
class Flat (α : Type) [Ob α] [Own α] where
  enc : α → List AV
  ok : α → Prop
  own_iff : ∀ {H S cs x}, Own.own H S cs x ↔ S = [] ∧ cs = enc x ∧ ok x
  rep_enc : ∀ {W0 H cs x}, Ob.rep W0 H cs x → cs = enc x ∧ ok x
instance : Flat Int where
  enc x := [.v (.int .i64 x)]
  ok x := inI64 x
  own_iff := Iff.rfl
  rep_enc h := h
instance : Flat OpD where
  enc x := [.v (.int .i64 x.kind), .v (.string x.key), .v (.int .i64 x.what), .v (.int .i64 x.val)]
  ok x := inI64 x.kind ∧ x.key.size ≤ big ∧ inI64 x.what ∧ inI64 x.val
  own_iff := Iff.rfl
  rep_enc h := h
instance : Flat RowD where
  enc x := [.v (.string x.key), .v (.int .i64 x.kind), .v (.int .i64 x.sum), .v (.bool x.set), .v (.int .i64 x.last), .v (.int .i64 x.n), .v (.int .i64 x.mn), .v (.int .i64 x.mx), .v (.int .i64 x.total), .v (.int .i64 x.dropped)]
  ok x := x.key.size ≤ big ∧ inI64 x.kind ∧ inI64 x.sum ∧ inI64 x.last ∧ inI64 x.n ∧ inI64 x.mn ∧ inI64 x.mx ∧ inI64 x.total ∧ inI64 x.dropped
  own_iff := Iff.rfl
  rep_enc h := h
instance : Flat KRowD where
  enc x := [.v (.string x.key), .v (.int .i64 x.kind)]
  ok x := x.key.size ≤ big ∧ inI64 x.kind
  own_iff := Iff.rfl
  rep_enc h := h
section
variable {α : Type} [Ob α] [Own α] [Flat α]
def encL (xs : List α) : List AV := (xs.map Flat.enc).flatten
theorem enc_len {x : α} (h : Flat.ok x) : (Flat.enc x).length = Ob.n α := Ob.len (Own.rep (W0 := default) (H := ⟨fun _ => none, 0⟩) (Flat.own_iff.2 ⟨rfl, rfl, h⟩))
theorem encL_len {xs : List α} (h : ∀ x ∈ xs, Flat.ok x) : (encL xs).length = xs.length * Ob.n α := by
  induction xs with
  | nil => simp [encL]
  | cons x xs ih =>
    have := ih fun y hy => h y (List.mem_cons_of_mem _ hy)
    simp only [encL, List.map_cons, List.flatten_cons, List.length_append, List.length_cons] at this ⊢
    rw [this, enc_len (h x (List.mem_cons_self ..)), Nat.add_mul]; omega
theorem encL_append (xs ys : List α) : encL (xs ++ ys) = encL xs ++ encL ys := by simp [encL]
theorem encL_cons (x : α) (xs : List α) : encL (x :: xs) = Flat.enc x ++ encL xs := by simp [encL]
theorem Owns.flat {H : AH} {T : List Nat} {cs : List AV} {xs : List α} (h : Owns H T cs xs) : T = [] ∧ cs = encL xs ∧ ∀ x ∈ xs, Flat.ok x := by
  induction h with
  | nil => exact ⟨rfl, rfl, fun _ h => by cases h⟩
  | cons h _ ih =>
    obtain ⟨rfl, rfl, h1⟩ := Flat.own_iff.1 h
    obtain ⟨rfl, rfl, h2⟩ := ih
    exact ⟨rfl, (encL_cons _ _).symm, fun x hx => (List.mem_cons.1 hx).elim (fun e => e ▸ h1) (h2 x)⟩
theorem Owns.ofFlat (H : AH) {xs : List α} (h : ∀ x ∈ xs, Flat.ok x) : Owns H [] (encL xs) xs := by
  induction xs with
  | nil => exact .nil
  | cons x xs ih =>
    rw [encL_cons]
    exact Owns.cons (S := []) (Flat.own_iff.2 ⟨rfl, rfl, h x (List.mem_cons_self ..)⟩) (ih fun y hy => h y (List.mem_cons_of_mem _ hy))
theorem OwnS.flat {H : AH} {S : List Nat} {v : AV} {xs : List α} (h : OwnS H S v xs) : (v = .v (.slice none 0 0) ∧ xs = [] ∧ S = []) ∨
    ∃ b o cs, v = .sl b o xs.length ∧ H.blk b = some ⟨cs, Ob.n α⟩ ∧ o + xs.length * Ob.n α ≤ cs.length ∧ xs.length ≤ big ∧ S = [b] ∧ (cs.drop o).take (xs.length * Ob.n α) = encL xs ∧ ∀ x ∈ xs, Flat.ok x := by
  rcases h with h | ⟨b, o, cs, T, h1, h2, h3, h4, h5, h6⟩
  · exact .inl h
  · obtain ⟨rfl, h7, h8⟩ := h6.flat
    exact .inr ⟨b, o, cs, h1, h2, h3, h4, h5, h7, h8⟩
theorem OwnS.ofFlat {H : AH} {b o : Nat} {cs : List AV} {xs : List α} {n : Nat} (h1 : H.blk b = some ⟨cs, Ob.n α⟩) (h2 : (cs.drop o).take (xs.length * Ob.n α) = encL xs) (h3 : o + xs.length * Ob.n α ≤ cs.length) (h4 : xs.length ≤ big) (h5 : ∀ x ∈ xs, Flat.ok x) (hn : n = xs.length) : OwnS H [b] (.sl b o n) xs := by
  subst hn
  exact .inr ⟨b, o, cs, [], rfl, h1, h3, h4, rfl, by rw [h2]; exact Owns.ofFlat H h5⟩
theorem Reps.flat {W0 : World} {H : AH} {cs : List AV} {xs : List α} (hf : ∀ {W0 H cs} {x : α}, Ob.rep W0 H cs x → cs = Flat.enc x ∧ Flat.ok x) (h : Reps W0 H cs xs) : cs = encL xs ∧ ∀ x ∈ xs, Flat.ok x := by
  induction h with
  | nil => exact ⟨rfl, fun _ h => by cases h⟩
  | cons h _ ih =>
    obtain ⟨rfl, h1⟩ := hf h
    obtain ⟨rfl, h2⟩ := ih
    exact ⟨(encL_cons _ _).symm, fun x hx => (List.mem_cons.1 hx).elim (fun e => e ▸ h1) (h2 x)⟩
end
/-! ### What a function that takes over blocks leaves -/
def Upd (S : List Nat) (H H' : AH) (S' : List Nat) : Prop := H.nxt ≤ H'.nxt ∧ (∀ b B, b ∉ S → H.blk b = some B → H'.blk b = some B) ∧ (∀ b ∈ S', b ∈ S ∨ H.nxt ≤ b) ∧ S'.Nodup
theorem Upd.refl {S : List Nat} (H : AH) (hn : S.Nodup) : Upd S H H S := ⟨Nat.le_refl _, fun _ _ _ h => h, fun _ h => .inl h, hn⟩
theorem Upd.trans {S S' S'' : List Nat} {H H' H'' : AH} (hw : H.wf) (h : Upd S H H' S') (k : Upd S' H' H'' S'') : Upd S H H'' S'' := by
  refine ⟨Nat.le_trans h.1 k.1, fun b B hb hB => k.2.1 b B (fun hm => ?_) (h.2.1 b B hb hB), fun b hb => ?_, k.2.2.2⟩
  · rcases h.2.2.1 b hm with h1 | h1
    · exact hb h1
    · have := hw.lt hB; omega
  · rcases k.2.2.1 b hb with h1 | h1
    · exact h.2.2.1 b h1
    · exact .inr (Nat.le_trans h.1 h1)
/-- What was there ahead of all that stays. -/
theorem Upd.start {S S' : List Nat} {H H1 H' : AH} (hs : Sub H H1) (h : Upd S H1 H' S') : Upd S H H' S' :=
  ⟨Nat.le_trans hs.1 h.1, fun b B hb hB => h.2.1 b B hb (hs.2 b B hB), fun b hb => (h.2.2.1 b hb).imp id (Nat.le_trans hs.1), h.2.2.2⟩
theorem Upd.idle {S : List Nat} {H H1 : AH} (hs : Sub H H1) (hn : S.Nodup) : Upd S H H1 S := ⟨hs.1, fun b B _ hB => hs.2 b B hB, fun _ h => .inl h, hn⟩
theorem Upd.sub {S S' : List Nat} {H0 H H' : AH} (hw : H0.wf) (hs : Sub H0 H) (hS : ∀ b ∈ S, H0.nxt ≤ b) (h : Upd S H H' S') : Sub H0 H' ∧ ∀ b ∈ S', H0.nxt ≤ b := by
  refine ⟨⟨Nat.le_trans hs.1 h.1, fun b B hB => h.2.1 b B (fun hm => ?_) (hs.2 b B hB)⟩, fun b hb => ?_⟩
  · have := hS b hm; have := hw.lt hB; omega
  · rcases h.2.2.1 b hb with h1 | h1
    · exact hS b h1
    · exact Nat.le_trans hs.1 h1
theorem Upd.own {α : Type} [Ob α] [Own α] {S S' T : List Nat} {H H' : AH} {v : AV} {xs : List α} (h : Upd S H H' S') (k : OwnS H T v xs) (hd : ∀ b ∈ T, b ∉ S) : OwnS H' T v xs :=
  k.eq fun b hb => by obtain ⟨B, hB⟩ := Option.isSome_iff_exists.1 (k.isin b hb); rw [hB, h.2.1 b B (hd b hb) hB]
theorem Upd.ofSub {S : List Nat} {H H' : AH} (h : Sub H H') {S' : List Nat} (hf : Fresh H.nxt S') : Upd S H H' S' := ⟨h.1, fun b B _ hB => h.2 b B hB, fun b hb => .inr (hf.2 b hb), hf.1⟩
theorem Upd.ofSet {b : Nat} {H : AH} {B : Blk} : Upd [b] H (H.set b B) [b] := ⟨Nat.le_refl _, fun x B' hx hB => by rw [blk_set, if_neg (by simpa using hx)]; exact hB, fun x hx => .inl hx, by simp⟩
/-- A slice in new blocks, handed on to a function that takes it over. -/
theorem NewS.upd {α : Type} [Ob α] [Own α] {H0 H H' : AH} {v : AV} {xs : List α} {S S' : List Nat} (hw : H0.wf) (hs : Sub H0 H) (hf : Fresh H0.nxt S) (hu : Upd S H H' S') (ho : OwnS H' S' v xs) : NewS H0 H' v xs := by
  obtain ⟨h1, h2⟩ := hu.sub hw hs hf.2
  exact ⟨h1, S', ho, hu.2.2.2, h2⟩
theorem NewS.slr {α : Type} [Ob α] [Own α] {W0 : World} {H H' : AH} {v : AV} {xs : List α} (h : NewS H H' v xs) : SlR W0 H' v xs := by obtain ⟨_, S, ho, _⟩ := h; exact ho.slr
theorem NewS.more {α : Type} [Ob α] [Own α] {H H' H'' : AH} {v : AV} {xs : List α} (h : NewS H H' v xs) (hs : Sub H' H'') : NewS H H'' v xs := by
  obtain ⟨h1, S, ho, hf⟩ := h
  exact ⟨h1.trans hs, S, ho.sub hs, hf⟩
theorem NewS.start {α : Type} [Ob α] [Own α] {H0 H H' : AH} {v : AV} {xs : List α} (h : NewS H H' v xs) (hs : Sub H0 H) : NewS H0 H' v xs := by
  obtain ⟨h1, S, ho, hf⟩ := h
  exact ⟨hs.trans h1, S, ho, hf.le hs.1⟩
theorem NewV.more {α : Type} [Ob α] [Own α] {H H' H'' : AH} {v : AV} {x : α} (h : NewV H H' v x) (hs : Sub H' H'') : NewV H H'' v x := by
  obtain ⟨h1, S, cs, e, ho, hf⟩ := h
  exact ⟨h1.trans hs, S, cs, e, Own.sub ho hs, hf⟩
end Go.Proofs.Ythcjolappblieaa.Aw
