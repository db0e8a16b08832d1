/- What the program's functions on models, logs and jobs compute, in plain Lean. -/
import Derived.Test.YthcjolappblieaaMa
namespace Go.Proofs.Ythcjolappblieaa.Aw
open Go
set_option linter.unusedVariables false
/-! ### Searching -/
section
variable {α : Type}
def NoneTo (p : α → Bool) (xs : List α) (i : Nat) : Prop := ∀ j (h : j < xs.length), j < i → p xs[j] = false
theorem NoneTo.zero (p : α → Bool) (xs : List α) : NoneTo p xs 0 := fun _ _ h => by omega
theorem NoneTo.succ {p : α → Bool} {xs : List α} {i : Nat} (h : NoneTo p xs i) (hi : i < xs.length) (hp : p xs[i] = false) : NoneTo p xs (i + 1) := fun j hj hl => by
  rcases Nat.lt_succ_iff_lt_or_eq.1 hl with hl | rfl
  · exact h j hj hl
  · exact hp
theorem find_hit {p : α → Bool} {xs : List α} {i : Nat} (h : NoneTo p xs i) (hi : i < xs.length) (hp : p xs[i] = true) : xs.find? p = some xs[i] := by
  rw [List.find?_eq_some_iff_getElem]
  exact ⟨hp, i, hi, rfl, fun j hj => by simp [h j (by omega) hj]⟩
theorem find_none {p : α → Bool} {xs : List α} {i : Nat} (h : NoneTo p xs i) (hi : xs.length ≤ i) : xs.find? p = none := by
  rw [List.find?_eq_none]
  intro x hx
  obtain ⟨j, hj, rfl⟩ := List.mem_iff_getElem.1 hx
  simp [h j hj (by omega)]
def firstIdx (p : α → Bool) (xs : List α) : Int := match xs.findIdx? p with | some i => i | none => -1
theorem idx_hit {p : α → Bool} {xs : List α} {i : Nat} (h : NoneTo p xs i) (hi : i < xs.length) (hp : p xs[i] = true) : firstIdx p xs = i := by
  unfold firstIdx
  rw [List.findIdx?_eq_some_iff_getElem.2 ⟨hi, hp, fun j hj => by simp [h j (by omega) hj]⟩]
theorem idx_none {p : α → Bool} {xs : List α} {i : Nat} (h : NoneTo p xs i) (hi : xs.length ≤ i) : firstIdx p xs = -1 := by
  unfold firstIdx
  rw [List.findIdx?_eq_none_iff.2]
  intro x hx
  obtain ⟨j, hj, rfl⟩ := List.mem_iff_getElem.1 hx
  exact h j hj (by omega)
theorem firstIdx_cases (p : α → Bool) (xs : List α) : (firstIdx p xs = -1 ∧ xs.find? p = none) ∨ ∃ i, ∃ h : i < xs.length, firstIdx p xs = (i : Int) ∧ p xs[i] = true ∧ xs.find? p = some xs[i] ∧ NoneTo p xs i := by
  unfold firstIdx
  cases h : xs.findIdx? p with
  | none =>
    refine .inl ⟨rfl, ?_⟩
    rw [List.findIdx?_eq_none_iff] at h
    rw [List.find?_eq_none]
    intro x hx; simp [h x hx]
  | some i =>
    obtain ⟨h1, h2, h3⟩ := List.findIdx?_eq_some_iff_getElem.1 h
    have h4 : NoneTo p xs i := fun j hj hl => by simpa using h3 j hl
    exact .inr ⟨i, h1, rfl, h2, find_hit h4 h1 h2, h4⟩
def AllTo (p : α → Bool) (xs : List α) (i : Nat) : Prop := ∀ j (h : j < xs.length), j < i → p xs[j] = true
theorem AllTo.zero (p : α → Bool) (xs : List α) : AllTo p xs 0 := fun _ _ h => by omega
theorem AllTo.succ {p : α → Bool} {xs : List α} {i : Nat} (h : AllTo p xs i) (hi : i < xs.length) (hp : p xs[i] = true) : AllTo p xs (i + 1) := fun j hj hl => by
  rcases Nat.lt_succ_iff_lt_or_eq.1 hl with hl | rfl
  · exact h j hj hl
  · exact hp
theorem all_done {p : α → Bool} {xs : List α} {i : Nat} (h : AllTo p xs i) (hi : xs.length ≤ i) : xs.all p = true := by
  rw [List.all_eq_true]
  intro x hx
  obtain ⟨j, hj, rfl⟩ := List.mem_iff_getElem.1 hx
  exact h j hj (by omega)
theorem all_fail {p : α → Bool} {xs : List α} {i : Nat} (hi : i < xs.length) (hp : p xs[i] = false) : xs.all p = false := by
  rw [List.all_eq_false]
  exact ⟨xs[i], List.getElem_mem hi, by simp [hp]⟩
def cnt (p : α → Bool) (xs : List α) (i : Nat) : Int := (xs.take i).countP p
theorem cnt_zero (p : α → Bool) (xs : List α) : cnt p xs 0 = 0 := by simp [cnt]
theorem cnt_yes {p : α → Bool} {xs : List α} {i : Nat} (hi : i < xs.length) (hp : p xs[i] = true) : cnt p xs (i + 1) = cnt p xs i + 1 := by
  unfold cnt
  rw [List.take_succ_eq_append_getElem hi, List.countP_append]; simp [hp]
theorem cnt_no {p : α → Bool} {xs : List α} {i : Nat} (hi : i < xs.length) (hp : p xs[i] = false) : cnt p xs (i + 1) = cnt p xs i := by
  unfold cnt
  rw [List.take_succ_eq_append_getElem hi, List.countP_append]; simp [hp]
theorem cnt_succ {p : α → Bool} {xs : List α} {i : Nat} (hi : i < xs.length) : cnt p xs (i + 1) = cnt p xs i + if p xs[i] = true then 1 else 0 := by
  split
  · rename_i h; exact cnt_yes hi h
  · rename_i h; rw [cnt_no hi (by simpa using h)]; omega
theorem cnt_le (p : α → Bool) (xs : List α) (i : Nat) : 0 ≤ cnt p xs i ∧ cnt p xs i ≤ i := by
  unfold cnt
  have := List.countP_le_length (p := p) (l := xs.take i)
  simp at this
  omega
theorem cnt_all {p : α → Bool} {xs : List α} {i : Nat} (hi : xs.length ≤ i) : cnt p xs i = xs.countP p := by
  unfold cnt; rw [List.take_of_length_le hi]
end
/-! ### Models and logs -/
def modelKind (m : ModelD) (key : ByteArray) : Int := match m.keys.find? (fun k => decide (k.key = key)) with | some k => k.kind | none => 0
def row0 : RowD := ⟨⟨#[]⟩, 0, 0, false, 0, 0, 0, 0, 0, 0⟩
def modelRow (m : ModelD) (key : ByteArray) : RowD := match m.rows.find? (fun r => decide (r.key = key)) with
  | some r => r
  | none => if modelKind m key = 0 then row0 else { row0 with key := key, kind := modelKind m key }
def swapAt (l : List EvD) (win : Int) : Int := match l.find? (fun e => decide (e.kind = 2 ∧ e.op.kind = 3 ∧ e.win = win)) with | some e => e.tm | none => -1
def among (l : List EvD) (kind : Int) : Int := l.countP fun e => decide (e.kind = kind)
def codesIn (l : List EvD) (code : Int) : Int := l.countP fun e => decide (e.kind = 3 ∧ e.code = code)
def placeOf (l : List EvD) (kind serial : Int) : Int := firstIdx (fun e => decide (e.kind = kind ∧ e.serial = serial)) l
def inTime (l : List EvD) (a b : Int) : Bool := decide (0 ≤ placeOf l 3 a ∧ 0 ≤ placeOf l 1 b ∧ placeOf l 3 a < placeOf l 1 b)
/-! ### Jobs -/
def placeOk (kind pc : Int) : Prop := pc = 11 ∨ (if kind = 3 then 12 ≤ pc ∧ pc ≤ 15 else if kind = 1 then pc = 0 ∨ pc = 1 else pc = 0 ∨ (2 ≤ pc ∧ pc ≤ 10))
instance (k p : Int) : Decidable (placeOk k p) := by unfold placeOk; infer_instance
def countOk (j : JobD) : Prop :=
  if j.pc = 0 ∨ j.pc = 1 then 0 ≤ j.k ∧ j.k ≤ 3 else if j.pc = 8 then 0 ≤ j.k ∧ j.k ≤ 2
  else if j.pc = 14 then 0 ≤ j.k ∧ j.k ≤ 3 ∧ (j.keys.length : Int) = j.k ∧ (j.raw.length : Int) = 0
  else if j.pc = 15 then 0 ≤ j.k ∧ j.k ≤ 31 ∧ (j.keys.length : Int) = 4 ∧ (j.raw.length : Int) = j.k
  else if j.pc = 13 ∨ j.pc = 12 then (j.keys.length : Int) = 0 ∧ (j.raw.length : Int) = 0 else True
instance (j : JobD) : Decidable (countOk j) := by unfold countOk; infer_instance
def jobOk (j : JobD) : Bool := opOk j.op && decide (placeOk j.op.kind j.pc) && decide (countOk j) && decide ((0 ≤ j.slot ∧ j.slot ≤ 3) ∧ (0 ≤ j.what ∧ j.what ≤ 3) ∧ (0 ≤ j.e ∧ j.e ≤ 281474976710655) ∧ (0 ≤ j.k ∧ j.k ≤ 32) ∧ (j.keys.length : Int) ≤ 4 ∧ (j.raw.length : Int) ≤ 32)
def queueOk (t : Nat) (q : QueueD) : Bool := decide ((q.ops.length : Int) ≤ 10) && q.ops.all fun o => opOk o && (decide (o.kind = 3) == decide ((t : Int) = 3))
def queueAt (l : List QueueD) (t : Nat) : Bool := match l[t]? with | some q => queueOk t q | none => true
def todoOk (l : List QueueD) : Bool := decide ((l.length : Int) = 4) && (List.range l.length).all (queueAt l)
end Go.Proofs.Ythcjolappblieaa.Aw
