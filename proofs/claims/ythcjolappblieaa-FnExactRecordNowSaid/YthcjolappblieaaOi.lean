/- The calculus 'Aw' at work, part 14: tools for the laws whose results own memory. -/
import Derived.Test.YthcjolappblieaaOe
import Derived.Test.YthcjolappblieaaAy3
namespace Go.Proofs.Ythcjolappblieaa.Aw
open Go Go.RowKit
set_option linter.unusedVariables false
set_option linter.unusedSectionVars false
theorem Fresh.left {n : Nat} {S T : List Nat} (h : Fresh n (S ++ T)) : Fresh n S := ⟨(List.nodup_append.1 h.1).1, fun b hb => h.2 b (List.mem_append_left _ hb)⟩
theorem Fresh.right {n : Nat} {S T : List Nat} (h : Fresh n (S ++ T)) : Fresh n T := ⟨(List.nodup_append.1 h.1).2.1, fun b hb => h.2 b (List.mem_append_right _ hb)⟩
theorem Upd.ownV {α : Type} [Ob α] [Own α] {S S' T : List Nat} {H H' : AH} {cs : List AV} {x : α} (h : Upd S H H' S') (k : Own.own H T cs x) (hd : ∀ b ∈ T, b ∉ S) : Own.own H' T cs x :=
  Own.eq k fun b hb => by obtain ⟨B, hB⟩ := Option.isSome_iff_exists.1 (Own.isin k b hb); rw [hB, h.2.1 b B (hd b hb) hB]
/-- How many marks a value takes, at most. -/
class CntB (α : Type) [Ob α] [Mk α] : Prop where
  le : ∀ x : α, Mk.cnt x ≤ 20 * (Ob.sz x + 1)
theorem cntL_le {α : Type} [Ob α] [Mk α] [CntB α] (xs : List α) : cntL xs ≤ 20 * Ob.sz xs := by
  show cntL xs ≤ 20 * (xs.length + (xs.map Ob.sz).sum)
  induction xs with
  | nil => simp [cntL]
  | cons x xs ih =>
    rw [cntL_cons]
    have := CntB.le x
    simp only [List.length_cons, List.map_cons, List.sum_cons]
    omega
instance : CntB Int := ⟨fun x => by show 1 ≤ 20 * (0 + 1); omega⟩
instance : CntB OpD := ⟨fun x => by show 4 ≤ 20 * (Ob.sz x + 1); omega⟩
instance : CntB RowD := ⟨fun x => by show 10 ≤ 20 * (Ob.sz x + 1); omega⟩
instance : CntB KRowD := ⟨fun x => by show 2 ≤ 20 * (Ob.sz x + 1); omega⟩
instance : CntB QueueD := ⟨fun x => by show cntL x.ops ≤ 20 * (Ob.sz x.ops + 1); have := cntL_le x.ops; omega⟩
instance : CntB JobD := ⟨fun x => by show 16 + cntL x.keys + cntL x.raw ≤ 20 * (Ob.sz x.op + Ob.sz x.keys + Ob.sz x.raw + 1); have := cntL_le x.keys; have := cntL_le x.raw; omega⟩
instance : CntB EvD := ⟨fun x => by show 12 + cntL x.rows ≤ 20 * (Ob.sz x.op + Ob.sz x.rows + 1); have := cntL_le x.rows; omega⟩
instance : CntB WorldD := ⟨fun x => by
  show cntL x.cells + cntL x.jobs + cntL x.todo + cntL x.log ≤ 20 * (Ob.sz x.cells + Ob.sz x.jobs + Ob.sz x.todo + Ob.sz x.log + 1)
  have := cntL_le x.cells; have := cntL_le x.jobs; have := cntL_le x.todo; have := cntL_le x.log; omega⟩
instance : CntB ScriptD := ⟨fun x => by show cntL x.todo + cntL x.picks ≤ 20 * (Ob.sz x.todo + Ob.sz x.picks + 1); have := cntL_le x.todo; have := cntL_le x.picks; omega⟩
instance : CntB ModelD := ⟨fun x => by show cntL x.keys + cntL x.rows ≤ 20 * (Ob.sz x.keys + Ob.sz x.rows + 1); have := cntL_le x.keys; have := cntL_le x.rows; omega⟩
theorem cnt_le_S {α : Type} [Ob α] [Mk α] [CntB α] {x : List α} (h : Ob.sz x ≤ 1048576) : cntL x ≤ 20971520 := by have := cntL_le x; omega
theorem cnt_le_V {α : Type} [Ob α] [Mk α] [CntB α] {x : α} (h : Ob.sz x ≤ 1048576) : Mk.cnt x ≤ 20971540 := by have := CntB.le x; omega
theorem cntL_int (xs : List Int) : cntL xs = xs.length := by
  induction xs with
  | nil => rfl
  | cons x xs ih => rw [cntL_cons, ih]; show 1 + xs.length = xs.length + 1; omega
theorem cntL_row (xs : List RowD) : cntL xs = 10 * xs.length := by
  induction xs with
  | nil => rfl
  | cons x xs ih => rw [cntL_cons, ih]; show 10 + 10 * xs.length = 10 * (xs.length + 1); omega
end Go.Proofs.Ythcjolappblieaa.Aw
