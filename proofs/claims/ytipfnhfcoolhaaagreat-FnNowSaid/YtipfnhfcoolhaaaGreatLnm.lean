/- A record and a flush at once: what changes. -/
import Derived.Test.YtipfnhfcoolhaaaGreatLdm
namespace Go.Proofs.YtipfnhfcoolhaaaGreat.Aw
open Go
set_option linter.unusedVariables false
set_option linter.unusedSimpArgs false
theorem recPut_getD {a : List Int} {b slot kind w v : Int} (h : cellsOk a = true) (hb : 0 ≤ b ∧ b ≤ 1) (hs : 0 ≤ slot ∧ slot ≤ 3) (hw : 0 ≤ w ∧ w ≤ 2) {j : Nat} (hj : ¬ (7 + b.toNat * 32 + slot.toNat * 8 ≤ j ∧ j < 7 + b.toNat * 32 + slot.toNat * 8 + 8)) : (recPut a b slot kind w v).1.getD j 0 = a.getD j 0 := by
  have e : (slotBase b slot).toNat = 7 + b.toNat * 32 + slot.toNat * 8 := by rw [slotBase_of hb hs]; omega
  have h4 := cellsOk_get h (7 + b.toNat * 32 + slot.toNat * 8 + 4)
  simp only [wordP] at h4
  unfold recPut
  simp only [e]
  split
  · rw [set_getD_ne (by omega)]
  · split
    · split
      · rw [set_getD_ne (by omega), set_getD_ne (by omega)]
      · rw [set_getD_ne (by omega)]
    · split
      · rw [set_getD_ne (by omega)]
      · rw [set_getD_ne (by omega), set_getD_ne (by omega)]
theorem recPut_cells {a : List Int} {b slot kind w v : Int} (h : cellsOk a = true) (hv : 0 ≤ v ∧ v ≤ 65535) : cellsOk (recPut a b slot kind w v).1 = true := by
  unfold recPut
  simp only
  have m : ∀ n : Int, wordP (n % 281474976710656) := fun n => ⟨by omega, by omega⟩
  split
  · exact cellsOk_set h _ (m _)
  · split
    · split
      · refine cellsOk_set (cellsOk_set h _ (m _)) _ ?_
        unfold packGauge wordP
        split <;> omega
      · exact cellsOk_set h _ (m _)
    · split
      · exact cellsOk_set h _ (m _)
      · exact cellsOk_set (cellsOk_set h _ (m _)) _ (by unfold wordP; omega)
theorem recordNow_same {a : List Int} {w : Int} {key : ByteArray} {v : Int} (h : (recordNow a w key v).2 ≠ 0) (h5 : (recordNow a w key v).2 ≠ 5) : (recordNow a w key v).1 = a := by
  revert h h5
  unfold recordNow
  simp only
  split
  · intro _ _; rfl
  · split
    · intro _ _; rfl
    · dsimp only; intro h h5; split at h5 <;> simp_all
theorem recordNow_done {a : List Int} {w : Int} {key : ByteArray} {v : Int} (h : (recordNow a w key v).2 = 0 ∨ (recordNow a w key v).2 = 5) :
    cellsOk a = true ∧ (0 ≤ w ∧ w ≤ 2) ∧ (0 ≤ v ∧ v ≤ 65535) ∧ (0 ≤ (findKey a key).1 ∧ (findKey a key).1 ≤ 3) ∧ (recordNow a w key v).1 = (recPut a (a.getD 0 0 % 2) (findKey a key).1 (findKey a key).2 w v).1 := by
  revert h
  unfold recordNow
  simp only
  split
  · intro h; exfalso; simp at h
  · rename_i h1
    rw [Classical.not_not] at h1
    split
    · intro h; exfalso; simp at h
    · rename_i h2
      intro _
      have := findKey_bd (a := a) (key := key)
      exact ⟨h1.1, h1.2.1, h1.2.2.2, ⟨by omega, this.2.1⟩, rfl⟩
theorem recordNow_rest {a : List Int} {w : Int} {key : ByteArray} {v : Int} (h : (recordNow a w key v).2 = 0 ∨ (recordNow a w key v).2 = 5) :
    cellsOk (recordNow a w key v).1 = true ∧ (recordNow a w key v).1.getD 0 0 = a.getD 0 0 ∧ ∀ s : Nat, s < 4 → (s : Int) ≠ (findKey a key).1 → rowIn (recordNow a w key v).1 (a.getD 0 0 % 2) s = rowIn a (a.getD 0 0 % 2) s := by
  obtain ⟨h1, h2, h3, h4, e⟩ := recordNow_done h
  have hb : 0 ≤ a.getD 0 0 % 2 ∧ a.getD 0 0 % 2 ≤ 1 := by omega
  have hx := recPut_cells (b := a.getD 0 0 % 2) (slot := (findKey a key).1) (kind := (findKey a key).2) (w := w) h1 h3
  have hl := cellsOk_len h1
  have hl2 := cellsOk_len hx
  rw [e]
  refine ⟨hx, recPut_getD h1 hb h4 h2 (by omega), fun s hs hne => ?_⟩
  rw [rowIn_at hx hb hs, rowIn_at h1 hb hs, recPut_getD h1 hb h4 h2 (by omega)]
  congr 1
  refine ext_getD (by rw [List.length_take, List.length_take, List.length_drop, List.length_drop, hl, hl2]) fun j hj => ?_
  have hj8 : j < 8 := by rw [List.length_take] at hj; omega
  have q : (7 + a.getD 0 0 % 2 * 32 + (s : Int) * 8).toNat + j = 7 + (a.getD 0 0 % 2).toNat * 32 + s * 8 + j := by omega
  have q2 : s < (findKey a key).1.toNat ∨ (findKey a key).1.toNat < s := by omega
  rw [drop_take_getD _ _ _ _ hj8, drop_take_getD _ _ _ _ hj8, q, recPut_getD h1 hb h4 h2 (by clear q; rcases q2 with q2 | q2 <;> omega)]
theorem flush_clear {a : List Int} (h : cellsOk a = true) : bufClear (flushNow a).1 (a.getD 0 0 % 2) = true := by
  have hb : 0 ≤ a.getD 0 0 % 2 ∧ a.getD 0 0 % 2 ≤ 1 := by omega
  rw [flushNow_ok h]
  have h2 := cellsOk_set (clearBuf_ok (b := a.getD 0 0 % 2) h) 0 (n := (a.getD 0 0 + 1) % 281474976710656) ⟨by omega, by omega⟩
  have hl := cellsOk_len h
  have hl2 := clearBuf_length a (a.getD 0 0 % 2)
  unfold bufClear
  rw [h2, decide_eq_true hb, decide_eq_true]
  · rfl
  · refine ext_getD (clearBuf_length _ _).symm fun j _ => ?_
    rw [clearBuf_getD h2 hb]
    by_cases hj : 0 = j
    · subst hj; rw [if_neg (by omega)]
    · simp only
      rw [set_getD_ne hj, clearBuf_getD h hb]
      split <;> rfl
theorem flush_first {a : List Int} (h : cellsOk a = true) : (flushNow a).1.getD 0 0 = (a.getD 0 0 + 1) % 281474976710656 ∧ (flushNow a).1.length = 71 ∧ (flushNow a).2 = reportIn a (a.getD 0 0 % 2) := by
  have hl := cellsOk_len h
  have hl2 := clearBuf_length a (a.getD 0 0 % 2)
  rw [flushNow_ok h]
  exact ⟨set_getD_eq (by omega), by simp only [List.length_set]; omega, rfl⟩
end Go.Proofs.YtipfnhfcoolhaaaGreat.Aw
