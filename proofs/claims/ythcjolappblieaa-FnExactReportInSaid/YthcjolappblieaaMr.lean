/- Rows in the order of their keys, in plain Lean. -/
import Derived.Test.YthcjolappblieaaMd
import Derived.Sort.Walk0
namespace Go.Proofs.Ythcjolappblieaa.Aw
open Go
set_option linter.unusedVariables false
/-- One key is ahead of another. -/
def klt (a b : ByteArray) : Prop := Op.bytesLess a.toList b.toList = true
instance (a b : ByteArray) : Decidable (klt a b) := by unfold klt; infer_instance
theorem klt_iff (a b : ByteArray) : klt a b ↔ a.toList < b.toList := by unfold klt; rw [bytesLess_eq]; simp
theorem klt_irrefl (a : ByteArray) : ¬ klt a a := by rw [klt_iff]; exact List.lt_irrefl _
theorem klt_trans {a b c : ByteArray} (h : klt a b) (k : klt b c) : klt a c := by rw [klt_iff] at *; exact List.lt_trans h k
theorem toList_inj {a b : ByteArray} (h : a.toList = b.toList) : a = b := by
  rw [ByteArray.toList_eq, ByteArray.toList_eq] at h
  exact ByteArray.ext (Array.toList_inj.mp h)
theorem klt_tri (a b : ByteArray) : klt a b ∨ a = b ∨ klt b a := by
  rw [klt_iff, klt_iff]
  by_cases h : a.toList < b.toList
  · exact .inl h
  · by_cases k : b.toList < a.toList
    · exact .inr (.inr k)
    · exact .inr (.inl (toList_inj (List.le_antisymm (List.not_lt.1 k) (List.not_lt.1 h))))
theorem klt_asymm {a b : ByteArray} (h : klt a b) : ¬ klt b a := fun k => klt_irrefl _ (klt_trans h k)
section
variable {α : Type} (kf : α → ByteArray)
def SortedK (l : List α) : Prop := l.Pairwise fun x y => klt (kf x) (kf y)
/-- One is put ahead of the first whose key is greater. -/
def insK : List α → α → List α
  | [], r => [r]
  | x :: l, r => if klt (kf r) (kf x) then r :: x :: l else x :: insK l r
def hasK (l : List α) (key : ByteArray) : Bool := l.any fun x => decide (kf x = key)
def putK (l : List α) (r : α) : List α := if hasK kf l (kf r) = true then l else insK kf l r
variable {kf}
theorem insK_at : ∀ {l : List α} {r : α} {i : Nat}, (∀ k (h : k < l.length), k < i → ¬ klt (kf r) (kf l[k])) → (∀ k (h : k < l.length), i ≤ k → klt (kf r) (kf l[k])) → insK kf l r = l.take i ++ r :: l.drop i
  | [], r, i, _, _ => by simp [insK]
  | x :: l, r, 0, h1, h2 => by
    have := h2 0 (by simp) (Nat.le_refl _)
    simp only [List.getElem_cons_zero] at this
    simp [insK, this]
  | x :: l, r, i + 1, h1, h2 => by
    have := h1 0 (by simp) (by omega)
    simp only [List.getElem_cons_zero] at this
    simp only [insK, this, if_false, List.take_succ_cons, List.drop_succ_cons, List.cons_append]
    rw [insK_at (i := i) (fun k h hk => h1 (k + 1) (by simpa using h) (by omega)) (fun k h hk => h2 (k + 1) (by simpa using h) (by omega))]
def gtAny (l : List α) (key : ByteArray) : Bool := l.any fun x => decide (klt key (kf x))
theorem insK_none : ∀ {l : List α} {r : α}, gtAny (kf := kf) l (kf r) = false → insK kf l r = l ++ [r]
  | [], r, _ => rfl
  | x :: l, r, h => by
    simp only [gtAny, List.any_cons, Bool.or_eq_false_iff, decide_eq_false_iff_not] at h
    simp only [insK, h.1, if_false, List.cons_append]
    rw [insK_none h.2]
theorem insK_snoc : ∀ (l : List α) (x r : α), insK kf (l ++ [x]) r = if gtAny (kf := kf) l (kf r) = true then insK kf l r ++ [x] else if klt (kf r) (kf x) then l ++ [r, x] else l ++ [x, r]
  | [], x, r => by simp [insK, gtAny]
  | y :: l, x, r => by
    simp only [List.cons_append, insK, gtAny, List.any_cons, Bool.or_eq_true, decide_eq_true_eq]
    by_cases h : klt (kf r) (kf y)
    · simp [h]
    · simp only [h, if_false, false_or]
      rw [insK_snoc l x r]
      simp only [gtAny]
      by_cases g : (l.any fun x => decide (klt (kf r) (kf x))) = true
      · simp [g]
      · by_cases k : klt (kf r) (kf x)
        · simp [g, k]
        · simp [g, k]
theorem mem_insK {l : List α} {r x : α} : x ∈ insK kf l r ↔ x = r ∨ x ∈ l := by
  induction l with
  | nil => simp [insK]
  | cons y l ih =>
    simp only [insK]
    split
    · simp
    · simp only [List.mem_cons, ih]
      constructor
      · rintro (h | h | h)
        · exact .inr (.inl h)
        · exact .inl h
        · exact .inr (.inr h)
      · rintro (h | h | h)
        · exact .inr (.inl h)
        · exact .inl h
        · exact .inr (.inr h)
theorem SortedK.ins {l : List α} {r : α} (h : SortedK kf l) (hn : hasK kf l (kf r) = false) : SortedK kf (insK kf l r) := by
  induction l with
  | nil => simp [insK, SortedK]
  | cons y l ih =>
    unfold SortedK at h
    rw [List.pairwise_cons] at h
    simp only [hasK, List.any_cons, Bool.or_eq_false_iff, decide_eq_false_iff_not] at hn
    simp only [insK]
    split
    · rename_i hlt
      unfold SortedK
      refine List.pairwise_cons.2 ⟨fun z hz => ?_, List.pairwise_cons.2 h⟩
      rcases List.mem_cons.1 hz with rfl | hz
      · exact hlt
      · exact klt_trans hlt (h.1 z hz)
    · rename_i hlt
      unfold SortedK
      refine List.pairwise_cons.2 ⟨fun z hz => ?_, ih h.2 hn.2⟩
      rcases mem_insK.1 hz with rfl | hz
      · rcases klt_tri (kf y) (kf z) with h3 | h3 | h3
        · exact h3
        · exact absurd h3 hn.1
        · exact absurd h3 hlt
      · exact h.1 z hz
theorem SortedK.put {l : List α} {r : α} (h : SortedK kf l) : SortedK kf (putK kf l r) := by
  unfold putK
  split
  · exact h
  · exact h.ins (by simpa using (by assumption : ¬ hasK kf l (kf r) = true))
theorem insK_length (l : List α) (r : α) : (insK kf l r).length = l.length + 1 := by
  induction l with
  | nil => rfl
  | cons x l ih => simp only [insK]; split <;> simp [ih]
theorem putK_length (l : List α) (r : α) : (putK kf l r).length ≤ l.length + 1 := by
  unfold putK
  split
  · omega
  · rw [insK_length]; omega
/-- Where a search by halves ends. -/
def At (kf : α → ByteArray) (l : List α) (key : ByteArray) (i : Nat) : Prop := i ≤ l.length ∧ (∀ k (h : k < l.length), k < i → klt (kf l[k]) key) ∧ ∀ k (h : k < l.length), i ≤ k → ¬ klt (kf l[k]) key
theorem At.has {l : List α} {key : ByteArray} {i : Nat} (hs : SortedK kf l) (h : At kf l key i) : hasK kf l key = decide (∃ h : i < l.length, kf l[i] = key) := by
  rw [Bool.eq_iff_iff, decide_eq_true_eq, hasK, List.any_eq_true]
  constructor
  · rintro ⟨x, hx, he⟩
    have he := of_decide_eq_true he
    obtain ⟨k, hk, rfl⟩ := List.mem_iff_getElem.1 hx
    rcases Nat.lt_trichotomy k i with h1 | h1 | h1
    · have := h.2.1 k hk h1; rw [he] at this; exact absurd this (klt_irrefl _)
    · subst h1; exact ⟨hk, he⟩
    · have h2 : i < l.length := by omega
      have h3 := List.pairwise_iff_getElem.1 hs i k h2 hk h1
      rw [he] at h3
      exact absurd h3 (h.2.2 i h2 (Nat.le_refl _))
  · rintro ⟨hi, he⟩
    exact ⟨l[i], List.getElem_mem hi, decide_eq_true he⟩
theorem At.ins {l : List α} {r : α} {i : Nat} (h : At kf l (kf r) i) (hn : hasK kf l (kf r) = false) : insK kf l r = l.take i ++ r :: l.drop i := by
  refine insK_at (fun k hk hlt => klt_asymm (h.2.1 k hk hlt)) fun k hk hle => ?_
  rcases klt_tri (kf r) (kf l[k]) with h1 | h1 | h1
  · exact h1
  · exfalso
    simp only [hasK, List.any_eq_false, decide_eq_true_eq] at hn
    exact hn _ (List.getElem_mem hk) h1.symm
  · exact absurd h1 (h.2.2 k hk hle)
end
/-- One row more, if it tells of anything. -/
def addRow (l : List RowD) (r : RowD) : List RowD := if r.kind = 0 ∨ quiet r = true then l else putK RowD.key l r
theorem addRow_sorted {l : List RowD} {r : RowD} (h : SortedK RowD.key l) : SortedK RowD.key (addRow l r) := by
  unfold addRow; split
  · exact h
  · exact h.put
theorem addRow_length (l : List RowD) (r : RowD) : (addRow l r).length ≤ l.length + 1 := by
  unfold addRow; split
  · omega
  · exact putK_length _ _
def reportTo (a : List Int) (b : Int) : Nat → List RowD
  | 0 => []
  | s + 1 => addRow (reportTo a b s) (rowIn a b s)
def reportIn (a : List Int) (b : Int) : List RowD := reportTo a b 4
theorem reportTo_sorted (a : List Int) (b : Int) : ∀ s, SortedK RowD.key (reportTo a b s)
  | 0 => .nil
  | s + 1 => addRow_sorted (reportTo_sorted a b s)
theorem reportTo_length (a : List Int) (b : Int) : ∀ s, (reportTo a b s).length ≤ s
  | 0 => Nat.le_refl _
  | s + 1 => Nat.le_trans (addRow_length _ _) (by have := reportTo_length a b s; omega)
end Go.Proofs.Ythcjolappblieaa.Aw
