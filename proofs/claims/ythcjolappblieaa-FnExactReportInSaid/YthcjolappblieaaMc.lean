/- Keys as numbers, in plain Lean. -/
import Derived.Test.YthcjolappblieaaMa
namespace Go.Proofs.Ythcjolappblieaa.Aw
open Go Go.RowKit
set_option linter.unusedVariables false
/-- The number of the first i bytes. -/
def packN (s : ByteArray) : Nat → Int
  | 0 => 0
  | i + 1 => packN s i * 256 + bt s i
theorem packN_bd (s : ByteArray) : ∀ i, 0 ≤ packN s i ∧ packN s i < 256 ^ i
  | 0 => by simp [packN]
  | i + 1 => by
    have h := packN_bd s i
    have hb := bt_le s i
    simp only [packN, Int.pow_succ]
    omega
def packKey (s : ByteArray) : Int := if keyOk s = true then packN s s.size else 0
theorem packKey_bd (s : ByteArray) : 0 ≤ packKey s ∧ packKey s < 4294967296 := by
  unfold packKey
  split
  · rename_i h
    have h := (of_decide_eq_true ((Bool.and_eq_true _ _).mp h).1)
    have hp := packN_bd s s.size
    have : s.size = 1 ∨ s.size = 2 ∨ s.size = 3 ∨ s.size = 4 := by omega
    rcases this with e | e | e | e <;> rw [e] at hp ⊢ <;> simp at hp <;> omega
  · omega
def bytesF : Nat → Int → List Int → List Int
  | 0, _, l => l
  | f + 1, n, l => if 0 < n then bytesF f (n / 256) (n % 256 :: l) else l
def unpackKey (n : Int) : ByteArray × Bool := if 1 ≤ n ∧ n ≤ 4294967295 ∧ keyOk (strOfNums (bytesF 4 n [])) = true then (strOfNums (bytesF 4 n []), true) else (⟨#[]⟩, false)
def tagged (key : ByteArray) (kind : Int) : Int := if keyOk key = true ∧ 1 ≤ kind ∧ kind ≤ 3 then packKey key * 4 + kind else 0
def untag (n : Int) : ByteArray × Int := if 1 ≤ n ∧ n ≤ 17179869183 ∧ (unpackKey (n / 4)).2 = true ∧ 1 ≤ n % 4 then ((unpackKey (n / 4)).1, n % 4) else (⟨#[]⟩, 0)
/-- The last w bytes of a number, the highest first. -/
def fixL : Nat → Int → List Int
  | 0, _ => []
  | w + 1, n => fixL w (n / 256) ++ [n % 256]
theorem fixL_len : ∀ (w : Nat) (n : Int), (fixL w n).length = w
  | 0, _ => rfl
  | w + 1, n => by simp [fixL, fixL_len w]
theorem fixL_bd : ∀ (w : Nat) (n x : Int), x ∈ fixL w n → 0 ≤ x ∧ x < 256
  | 0, _, x, h => by simp [fixL] at h
  | w + 1, n, x, h => by
    simp only [fixL, List.mem_append, List.mem_singleton] at h
    rcases h with h | rfl
    · exact fixL_bd w _ x h
    · omega
/-- What Fixed makes of a number that is not below 0. -/
def fixedS (n : Int) (w : Nat) : ByteArray := if 0 ≤ n ∧ n < 256 ^ w then strOfNums (fixL w n) else ⟨#[]⟩
theorem bytesF_fix : ∀ (w f : Nat) (n : Int) (l : List Int), w ≤ f → 0 ≤ n → n < 256 ^ w → (w = 0 ∨ 256 ^ (w - 1) ≤ n) → bytesF f n l = fixL w n ++ l
  | 0, f, n, l, _, h0, h1, _ => by
    have : n = 0 := by simp at h1; omega
    subst this
    cases f <;> simp [bytesF, fixL]
  | w + 1, f, n, l, hf, h0, h1, h2 => by
    cases f with
    | zero => omega
    | succ f =>
      have h2 : (256 : Int) ^ w ≤ n := by simpa using h2
      have hp : (0 : Int) < 256 ^ w := Int.pow_pos (by decide)
      rw [Int.pow_succ] at h1
      simp only [bytesF]
      rw [if_pos (by omega), bytesF_fix w f (n / 256) _ (by omega) (by omega) (by omega) ?_]
      · simp [fixL]
      · cases w with
        | zero => exact .inl rfl
        | succ w =>
          right
          rw [Int.pow_succ] at h2
          simp only [Nat.add_sub_cancel]
          omega
def packL (l : List Int) : Int := l.foldl (fun a b => a * 256 + b) 0
theorem packN_L (l : List Int) (h0 : ∀ x ∈ l, 0 ≤ x ∧ x < 256) : ∀ i, i ≤ l.length → packN (strOfNums l) i = packL (l.take i)
  | 0, _ => by simp [packN, packL]
  | i + 1, h => by
    rw [packN, packN_L l h0 i (by omega), bt_nums l i (by omega) h0, List.take_succ_eq_append_getElem (by omega)]
    simp only [packL, List.foldl_append, List.foldl_cons, List.foldl_nil]
theorem packL_fix : ∀ (w : Nat) (n : Int), 0 ≤ n → n < 256 ^ w → packL (fixL w n) = n
  | 0, n, h0, h1 => by simp at h1; simp [fixL, packL]; omega
  | w + 1, n, h0, h1 => by
    rw [Int.pow_succ] at h1
    have := packL_fix w (n / 256) (by omega) (by omega)
    simp only [packL] at this ⊢
    rw [fixL, List.foldl_append, this]
    simp; omega
theorem fixL_zero : ∀ (w : Nat) (n : Int), 0 ≤ n → n < 256 ^ w → fixL (w + 1) n = 0 :: fixL w n
  | 0, n, h0, h1 => by
    have : n = 0 := by simp at h1; omega
    subst this; rfl
  | w + 1, n, h0, h1 => by
    rw [Int.pow_succ] at h1
    rw [fixL, fixL_zero w (n / 256) (by omega) (by omega)]; rfl
theorem keyOk_byte {l : List Int} (h0 : ∀ x ∈ l, 0 ≤ x ∧ x < 256) (hk : keyOk (strOfNums l) = true) : ∀ x ∈ l, keyByte x := by
  intro x hx
  obtain ⟨i, hi, rfl⟩ := List.mem_iff_getElem.1 hx
  have h1 := ((Bool.and_eq_true _ _).mp hk).2
  rw [List.all_eq_true] at h1
  have h2 := h1 i (by rw [List.mem_range, strOfNums_size]; exact hi)
  rw [bt_nums l i hi h0] at h2
  exact of_decide_eq_true h2
theorem packKey_fix {w : Nat} {n : Int} (h0 : 0 ≤ n) (h1 : n < 256 ^ w) (hk : keyOk (strOfNums (fixL w n)) = true) : packKey (strOfNums (fixL w n)) = n := by
  rw [packKey, if_pos hk, packN_L _ (fixL_bd w n) _ (by rw [strOfNums_size]; exact Nat.le_refl _), strOfNums_size, List.take_of_length_le (Nat.le_refl _), packL_fix w n h0 h1]
theorem unpack_hit {n : Int} {w : Nat} (hw : 1 ≤ w ∧ w ≤ 4) (h0 : 0 < n) (h1 : n < 256 ^ w) (hp : packKey (strOfNums (fixL w n)) = n) : unpackKey n = (strOfNums (fixL w n), true) := by
  have hk : keyOk (strOfNums (fixL w n)) = true := by
    cases h : keyOk (strOfNums (fixL w n)) with
    | true => rfl
    | false => rw [packKey, if_neg (by simp [h])] at hp; omega
  have hge : (256 : Int) ^ (w - 1) ≤ n := by
    by_cases hlt : n < 256 ^ (w - 1)
    · exfalso
      obtain ⟨v, rfl⟩ : ∃ v, w = v + 1 := ⟨w - 1, by omega⟩
      have hz := fixL_zero v n (by omega) (by simpa using hlt)
      have := keyOk_byte (fixL_bd _ n) hk 0 (by rw [hz]; exact List.mem_cons_self ..)
      unfold keyByte at this; omega
    · omega
  have hle : (256 : Int) ^ w ≤ 256 ^ 4 := by
    have : w = 1 ∨ w = 2 ∨ w = 3 ∨ w = 4 := by omega
    rcases this with rfl | rfl | rfl | rfl <;> simp
  have hb := bytesF_fix w 4 n [] hw.2 (by omega) h1 (.inr hge)
  rw [List.append_nil] at hb
  rw [unpackKey, hb, if_pos ⟨by omega, by simp at hle; omega, hk⟩]
theorem unpack_none {n : Int} (h : ∀ w : Nat, 1 ≤ w → w ≤ 4 → ¬ (0 < n ∧ n < 256 ^ w ∧ packKey (strOfNums (fixL w n)) = n)) : unpackKey n = (⟨#[]⟩, false) := by
  rw [unpackKey, if_neg]
  rintro ⟨h0, h1, hk⟩
  have go : ∀ w : Nat, 1 ≤ w → w ≤ 4 → n < 256 ^ w → 256 ^ (w - 1) ≤ n → False := by
    intro w hw1 hw2 hl hg
    have hb := bytesF_fix w 4 n [] hw2 (by omega) hl (.inr hg)
    rw [List.append_nil] at hb
    rw [hb] at hk
    exact h w hw1 hw2 ⟨by omega, hl, packKey_fix (by omega) hl hk⟩
  by_cases h2 : n < 256
  · exact go 1 (by omega) (by omega) (by simpa using h2) (by simp; omega)
  by_cases h3 : n < 65536
  · exact go 2 (by omega) (by omega) (by simp; omega) (by simp; omega)
  by_cases h4 : n < 16777216
  · exact go 3 (by omega) (by omega) (by simp; omega) (by simp; omega)
  · exact go 4 (by omega) (by omega) (by simp; omega) (by simp; omega)
end Go.Proofs.Ythcjolappblieaa.Aw
