/- The calculus 'Aw' at work, part 10: values that own their memory. -/
import Derived.Test.YthcjolappblieaaAy3
namespace Go.Proofs.Ythcjolappblieaa.Aw
open Go Go.RowKit
set_option linter.unusedVariables false
set_option linter.unusedSimpArgs false
set_option linter.unusedSectionVars false
variable {P : Program} {W0 : World}
/-- A value with the blocks that it leads to, each told as often as it is met. -/
class Own (α : Type) [Ob α] where
  own : AH → List Nat → List AV → α → Prop
  rep : ∀ {W0 H S cs x}, own H S cs x → Ob.rep W0 H cs x
  eq : ∀ {H H' S cs x}, own H S cs x → (∀ b ∈ S, H'.blk b = H.blk b) → own H' S cs x
  isin : ∀ {H S cs x}, own H S cs x → ∀ b ∈ S, (H.blk b).isSome = true
instance : Own Int where
  own H S cs x := S = [] ∧ cs = [.v (.int .i64 x)] ∧ inI64 x
  rep := by rintro _ _ _ _ _ ⟨_, h⟩; exact h
  eq := by rintro _ _ _ _ _ h _; exact h
  isin := by rintro _ _ _ _ ⟨rfl, _⟩ b hb; cases hb
instance : Own Bool where
  own H S cs x := S = [] ∧ cs = [.v (.bool x)]
  rep := by rintro _ _ _ _ _ ⟨_, h⟩; exact h
  eq := by rintro _ _ _ _ _ h _; exact h
  isin := by rintro _ _ _ _ ⟨rfl, _⟩ b hb; cases hb
instance : Own ByteArray where
  own H S cs x := S = [] ∧ cs = [.v (.string x)] ∧ x.size ≤ big
  rep := by rintro _ _ _ _ _ ⟨_, h⟩; exact h
  eq := by rintro _ _ _ _ _ h _; exact h
  isin := by rintro _ _ _ _ ⟨rfl, _⟩ b hb; cases hb
section
variable {α : Type} [Ob α] [Own α]
inductive Owns (H : AH) : List Nat → List AV → List α → Prop
  | nil : Owns H [] [] []
  | cons {S T : List Nat} {c cs : List AV} {x : α} {xs : List α} : Own.own H S c x → Owns H T cs xs → Owns H (S ++ T) (c ++ cs) (x :: xs)
theorem Owns.reps {H : AH} {S : List Nat} {cs : List AV} {xs : List α} (h : Owns H S cs xs) : Reps W0 H cs xs := by
  induction h with
  | nil => exact .nil
  | cons h _ ih => exact .cons (Own.rep h) ih
theorem Owns.eq {H H' : AH} {S : List Nat} {cs : List AV} {xs : List α} (h : Owns H S cs xs) (k : ∀ b ∈ S, H'.blk b = H.blk b) : Owns H' S cs xs := by
  induction h with
  | nil => exact .nil
  | cons h _ ih => exact .cons (Own.eq h fun b hb => k b (List.mem_append_left _ hb)) (ih fun b hb => k b (List.mem_append_right _ hb))
theorem Owns.isin {H : AH} {S : List Nat} {cs : List AV} {xs : List α} (h : Owns H S cs xs) : ∀ b ∈ S, (H.blk b).isSome = true := by
  induction h with
  | nil => intro b hb; cases hb
  | cons h _ ih => intro b hb; rcases List.mem_append.1 hb with hb | hb; exact Own.isin h b hb; exact ih b hb
theorem Owns.len {H : AH} {S : List Nat} {cs : List AV} {xs : List α} (h : Owns H S cs xs) : cs.length = xs.length * Ob.n α := (h.reps (W0 := default)).len
theorem Owns.append {H : AH} {S T : List Nat} {cs ds : List AV} {xs ys : List α} (h : Owns H S cs xs) (k : Owns H T ds ys) : Owns H (S ++ T) (cs ++ ds) (xs ++ ys) := by
  induction h with
  | nil => exact k
  | cons h _ ih => rw [List.append_assoc, List.append_assoc]; exact .cons h ih
theorem Owns.one {H : AH} {S : List Nat} {c : List AV} {x : α} (h : Own.own H S c x) : Owns H S c [x] := by
  have := Owns.cons h (.nil (H := H))
  rwa [List.append_nil, List.append_nil] at this
/-- One element, taken out. -/
theorem Owns.get {H : AH} {S : List Nat} {cs : List AV} {xs : List α} (h : Owns H S cs xs) (i : Nat) (hi : i < xs.length) : ∃ S1 S2 S3, S = S1 ++ (S2 ++ S3) ∧ Owns H S1 (cs.take (i * Ob.n α)) (xs.take i) ∧ Own.own H S2 ((cs.drop (i * Ob.n α)).take (Ob.n α)) xs[i] ∧ Owns H S3 (cs.drop ((i + 1) * Ob.n α)) (xs.drop (i + 1)) := by
  induction h generalizing i with
  | nil => simp at hi
  | @cons S T c cs x xs h hr ih =>
    have hl : c.length = Ob.n α := Ob.len (Own.rep (W0 := default) h)
    cases i with
    | zero =>
      refine ⟨[], S, T, rfl, ?_, ?_, ?_⟩
      · simp; exact .nil
      · rw [Nat.zero_mul, List.drop_zero, ← hl, List.take_left]; exact h
      · rw [Nat.zero_add, Nat.one_mul, ← hl, List.drop_left]; simpa using hr
    | succ i =>
      obtain ⟨S1, S2, S3, e, h1, h2, h3⟩ := ih i (by simpa using hi)
      refine ⟨S ++ S1, S2, S3, by rw [e, List.append_assoc], ?_, ?_, ?_⟩
      · rw [Nat.add_mul, Nat.one_mul, Nat.add_comm (i * Ob.n α), ← hl, List.take_length_add_append, List.take_succ_cons, hl]; exact .cons h h1
      · rw [Nat.add_mul, Nat.one_mul, Nat.add_comm (i * Ob.n α), ← List.drop_drop, ← hl, List.drop_left, hl]; exact h2
      · rw [Nat.add_mul, Nat.one_mul, Nat.add_comm ((i + 1) * Ob.n α), ← List.drop_drop, ← hl, List.drop_left, hl, List.drop_succ_cons]; exact h3
/-- A slice that owns its block. -/
def OwnS (H : AH) (S : List Nat) (v : AV) (xs : List α) : Prop :=
  (v = .v (.slice none 0 0) ∧ xs = [] ∧ S = []) ∨ ∃ b o cs T, v = .sl b o xs.length ∧ H.blk b = some ⟨cs, Ob.n α⟩ ∧ o + xs.length * Ob.n α ≤ cs.length ∧ xs.length ≤ big ∧ S = b :: T ∧ Owns H T ((cs.drop o).take (xs.length * Ob.n α)) xs
theorem OwnS.slr {H : AH} {S : List Nat} {v : AV} {xs : List α} (h : OwnS H S v xs) : SlR W0 H v xs := by
  rcases h with ⟨rfl, rfl, rfl⟩ | ⟨b, o, cs, T, rfl, hB, ho, hb, rfl, hO⟩
  · exact ⟨rfl, by simp [big], [], by simp [slCells], .nil⟩
  · refine ⟨rfl, hb, _, ?_, hO.reps⟩
    simp only [slCells, Nat.le_refl, if_true, hB, Option.bind_some, true_and]
    rw [if_pos ho]
theorem OwnS.eq {H H' : AH} {S : List Nat} {v : AV} {xs : List α} (h : OwnS H S v xs) (k : ∀ b ∈ S, H'.blk b = H.blk b) : OwnS H' S v xs := by
  rcases h with ⟨hv, rfl, rfl⟩ | ⟨b, o, cs, T, rfl, hB, ho, hb, rfl, hO⟩
  · exact .inl ⟨hv, rfl, rfl⟩
  · exact .inr ⟨b, o, cs, T, rfl, by rw [k b (List.mem_cons_self ..)]; exact hB, ho, hb, rfl, hO.eq fun x hx => k x (List.mem_cons_of_mem _ hx)⟩
theorem OwnS.isin {H : AH} {S : List Nat} {v : AV} {xs : List α} (h : OwnS H S v xs) : ∀ b ∈ S, (H.blk b).isSome = true := by
  rcases h with ⟨-, rfl, rfl⟩ | ⟨b, o, cs, T, rfl, hB, ho, hb, rfl, hO⟩
  · intro b hb; cases hb
  · intro x hx
    rcases List.mem_cons.1 hx with rfl | hx
    · simp [hB]
    · exact hO.isin x hx
instance : Own (List α) where
  own H S cs xs := ∃ v, cs = [v] ∧ OwnS H S v xs
  rep := by rintro _ _ _ _ _ ⟨v, rfl, h⟩; exact ⟨v, rfl, h.slr⟩
  eq := by rintro _ _ _ _ _ ⟨v, rfl, h⟩ k; exact ⟨v, rfl, h.eq k⟩
  isin := by rintro _ _ _ _ ⟨v, rfl, h⟩; exact h.isin
end
/-- Blocks that are new, each once. -/
def Fresh (n : Nat) (S : List Nat) : Prop := S.Nodup ∧ ∀ b ∈ S, n ≤ b
theorem Fresh.nil (n : Nat) : Fresh n [] := ⟨List.nodup_nil, fun _ h => by cases h⟩
theorem Fresh.le {m n : Nat} {S : List Nat} (h : Fresh n S) (k : m ≤ n) : Fresh m S := ⟨h.1, fun b hb => Nat.le_trans k (h.2 b hb)⟩
/-- What was there stays behind blocks that are new. -/
theorem Sub.keep {H H' : AH} (hs : Sub H H') {S : List Nat} (h : ∀ b ∈ S, (H.blk b).isSome = true) : ∀ b ∈ S, H'.blk b = H.blk b := fun b hb => hs.blk_eq (h b hb)
theorem AH.wf.lt' {H : AH} (hw : H.wf) {b : Nat} (h : (H.blk b).isSome = true) : b < H.nxt := by
  obtain ⟨B, hB⟩ := Option.isSome_iff_exists.1 h
  exact hw.lt hB
theorem Fresh.append {n m : Nat} {S T : List Nat} (h : Fresh n S) (k : Fresh m T) (hS : ∀ b ∈ S, b < m) (hnm : n ≤ m) : Fresh n (S ++ T) := by
  refine ⟨List.nodup_append.2 ⟨h.1, k.1, fun a ha b hb => ?_⟩, fun b hb => ?_⟩
  · have := hS a ha; have := k.2 b hb; omega
  · rcases List.mem_append.1 hb with hb | hb
    · exact h.2 b hb
    · have := k.2 b hb; omega
theorem Fresh.cons {n b : Nat} {T : List Nat} (k : Fresh n T) (hb : n ≤ b) (hT : b ∉ T) : Fresh n (b :: T) := by
  refine ⟨List.nodup_cons.2 ⟨hT, k.1⟩, fun x hx => ?_⟩
  rcases List.mem_cons.1 hx with rfl | hx
  · exact hb
  · exact k.2 x hx
end Go.Proofs.Ythcjolappblieaa.Aw
