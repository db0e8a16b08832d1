/- A buffer cleared: what reports say afterwards. -/
import Derived.Test.YtipfnhfcoolhaaaGreatFnf
namespace Go.Proofs.YtipfnhfcoolhaaaGreat.Aw
open Go
set_option linter.unusedVariables false
set_option linter.unusedSimpArgs false
theorem clearTo_getD (a : List Int) (b : Int) (j : Nat) : ∀ n, 7 + b.toNat * 32 + n ≤ a.length → (clearTo a b n).getD j 0 = if 7 + b.toNat * 32 ≤ j ∧ j < 7 + b.toNat * 32 + n then 0 else a.getD j 0
  | 0, _ => by rw [if_neg (by omega)]; rfl
  | n + 1, h => by
    have ih := clearTo_getD a b j n (by omega)
    have hl := clearTo_length a b n
    by_cases e : 7 + b.toNat * 32 + n = j
    · subst e
      rw [clearTo, set_getD_eq (by omega), if_pos (by omega)]
    · rw [clearTo, set_getD_ne e, ih]
      by_cases q : 7 + b.toNat * 32 ≤ j ∧ j < 7 + b.toNat * 32 + n
      · rw [if_pos q, if_pos (by omega)]
      · rw [if_neg q, if_neg (by omega)]
theorem clearBuf_getD {a : List Int} {b : Int} (h : cellsOk a = true) (hb : 0 ≤ b ∧ b ≤ 1) (j : Nat) : (clearBuf a b).getD j 0 = if 7 + b.toNat * 32 ≤ j ∧ j < 39 + b.toNat * 32 then 0 else a.getD j 0 := by
  have hl := cellsOk_len h
  rw [clearBuf, if_pos ⟨h, hb⟩, clearTo_getD a b j 32 (by omega)]
  by_cases q : 7 + b.toNat * 32 ≤ j ∧ j < 39 + b.toNat * 32
  · rw [if_pos q, if_pos (by omega)]
  · rw [if_neg q, if_neg (by omega)]
theorem ext_getD {x y : List Int} (hl : x.length = y.length) (h : ∀ j, j < x.length → x.getD j 0 = y.getD j 0) : x = y := by
  apply List.ext_getElem hl
  intro i h1 h2
  have := h i h1
  rw [List.getD_eq_getElem?_getD, List.getD_eq_getElem?_getD, List.getElem?_eq_getElem h1, List.getElem?_eq_getElem h2] at this
  exact this
theorem drop_take_getD (x : List Int) (k n j : Nat) (h : j < n) : ((x.drop k).take n).getD j 0 = x.getD (k + j) 0 := by
  rw [List.getD_eq_getElem?_getD, List.getD_eq_getElem?_getD, List.getElem?_take_of_lt h, List.getElem?_drop]
/-- Is a buffer clear. -/
def bufClear (a : List Int) (b : Int) : Bool := cellsOk a && decide (0 ≤ b ∧ b ≤ 1) && decide (a = clearBuf a b)
theorem bufClear_bad {a : List Int} {b : Int} (h : ¬ (cellsOk a = true ∧ (0 ≤ b ∧ b ≤ 1))) : bufClear a b = false := by
  unfold bufClear
  by_cases k : cellsOk a = true
  · rw [decide_eq_false (fun q => h ⟨k, q⟩)]; simp
  · rw [Bool.not_eq_true] at k; rw [k]; rfl
theorem clearBuf_bad {a : List Int} {b : Int} (h : ¬ (cellsOk a = true ∧ (0 ≤ b ∧ b ≤ 1))) : clearBuf a b = a := by rw [clearBuf, if_neg h]
theorem clear_clear {a : List Int} {b : Int} (h : cellsOk a = true) (hb : 0 ≤ b ∧ b ≤ 1) : bufClear (clearBuf a b) b = true := by
  have h2 := clearBuf_ok (b := b) h
  unfold bufClear
  rw [h2, decide_eq_true hb, decide_eq_true]
  · rfl
  · refine ext_getD (clearBuf_length _ _).symm fun j _ => ?_
    rw [clearBuf_getD h2 hb, clearBuf_getD h hb]
    split <;> rfl
theorem rowFrom_zero (tag : Int) : quiet (rowFrom tag (List.replicate 8 0)) = true ∨ (rowFrom tag (List.replicate 8 0)).kind = 0 := by
  unfold rowFrom
  by_cases h0 : (untag tag).2 = 0 ∨ ¬ ((List.replicate 8 (0 : Int)).length : Int) = 8
  · rw [if_pos h0]; right; rfl
  · rw [if_neg h0]; left
    by_cases h1 : (untag tag).2 = 1
    · simp only [if_pos h1]; simp [quiet, row0]
    · simp only [if_neg h1]
      by_cases h2 : (untag tag).2 = 2
      · simp only [if_pos h2]; simp [quiet, row0, unpackGauge]
      · simp only [if_neg h2]; simp [timerRow, samples, quiet, row0]
theorem slice_zero {a : List Int} {b : Int} {s : Nat} (h : cellsOk a = true) (hb : 0 ≤ b ∧ b ≤ 1) (hs : s < 4) : ((clearBuf a b).drop (7 + b * 32 + s * 8).toNat).take 8 = List.replicate 8 0 := by
  have hl := clearBuf_length a b
  have hl2 := cellsOk_len h
  refine ext_getD (by simp; omega) fun j hj => ?_
  have hj8 : j < 8 := by simp at hj; omega
  rw [drop_take_getD _ _ _ _ hj8, clearBuf_getD h hb, if_pos (by omega)]
  rw [List.getD_eq_getElem?_getD, List.getElem?_replicate, if_pos hj8]; rfl
theorem slice_other {a : List Int} {b : Int} {s : Nat} (h : cellsOk a = true) (hb : 0 ≤ b ∧ b ≤ 1) (hs : s < 4) : ((clearBuf a b).drop (7 + (1 - b) * 32 + s * 8).toNat).take 8 = (a.drop (7 + (1 - b) * 32 + s * 8).toNat).take 8 := by
  have hl := clearBuf_length a b
  have hl2 := cellsOk_len h
  refine ext_getD (by simp; omega) fun j hj => ?_
  have hj8 : j < 8 := by simp at hj; omega
  rw [drop_take_getD _ _ _ _ hj8, drop_take_getD _ _ _ _ hj8, clearBuf_getD h hb, if_neg (by omega)]
theorem rowIn_at {a : List Int} {b : Int} {s : Nat} (h : cellsOk a = true) (hb : 0 ≤ b ∧ b ≤ 1) (hs : s < 4) : rowIn a b s = rowFrom (a.getD (3 + s) 0) ((a.drop (7 + b * 32 + s * 8).toNat).take 8) := by
  have e := slotBase_of (b := b) (s := (s : Int)) hb (by omega)
  rw [rowIn, if_pos ⟨h, by omega⟩, e, keyCell_in (by omega), show ((3 : Int) + s).toNat = 3 + s by omega]
theorem rowIn_clear {a : List Int} {b : Int} {s : Nat} (h : cellsOk a = true) (hb : 0 ≤ b ∧ b ≤ 1) (hs : s < 4) : quiet (rowIn (clearBuf a b) b s) = true ∨ (rowIn (clearBuf a b) b s).kind = 0 := by
  rw [rowIn_at (clearBuf_ok h) hb hs, slice_zero h hb hs]; exact rowFrom_zero _
theorem rowIn_other {a : List Int} {b : Int} {s : Nat} (h : cellsOk a = true) (hb : 0 ≤ b ∧ b ≤ 1) (hs : s < 4) : rowIn (clearBuf a b) (1 - b) s = rowIn a (1 - b) s := by
  rw [rowIn_at (clearBuf_ok h) (by omega) hs, rowIn_at h (by omega) hs, slice_other h hb hs, clearBuf_getD h hb, if_neg (by omega)]
theorem reportIn_clear {a : List Int} {b : Int} (h : cellsOk a = true) (hb : 0 ≤ b ∧ b ≤ 1) : reportIn (clearBuf a b) b = [] := by
  have : ∀ n, n ≤ 4 → reportTo (clearBuf a b) b n = [] := by
    intro n
    induction n with
    | zero => intro _; rfl
    | succ n ih =>
      intro hn
      have := rowIn_clear (s := n) h hb (by omega)
      rw [reportTo, ih (by omega), addRow, if_pos this.symm]
  exact this 4 (Nat.le_refl _)
theorem reportIn_other {a : List Int} {b : Int} (h : cellsOk a = true) (hb : 0 ≤ b ∧ b ≤ 1) : reportIn (clearBuf a b) (1 - b) = reportIn a (1 - b) := by
  have : ∀ n, n ≤ 4 → reportTo (clearBuf a b) (1 - b) n = reportTo a (1 - b) n := by
    intro n
    induction n with
    | zero => intro _; rfl
    | succ n ih => intro hn; rw [reportTo, reportTo, ih (by omega), rowIn_other h hb (by omega)]
  exact this 4 (Nat.le_refl _)
theorem clearBuf_take {a : List Int} {b : Int} (h : cellsOk a = true) (hb : 0 ≤ b ∧ b ≤ 1) : (clearBuf a b).take 7 = a.take 7 := by
  have hl := clearBuf_length a b
  have hl2 := cellsOk_len h
  refine ext_getD (by simp; omega) fun j hj => ?_
  have hj8 : j < 7 := by simp at hj; omega
  have e1 := drop_take_getD (clearBuf a b) 0 7 j hj8
  have e2 := drop_take_getD a 0 7 j hj8
  rw [List.drop_zero, Nat.zero_add] at e1 e2
  rw [e1, e2, clearBuf_getD h hb, if_neg (by omega)]
end Go.Proofs.YtipfnhfcoolhaaaGreat.Aw
