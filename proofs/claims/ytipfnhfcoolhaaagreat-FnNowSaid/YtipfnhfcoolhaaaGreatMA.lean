/- What the program's functions compute, in plain Lean. -/
import Derived.Test.YtipfnhfcoolhaaaGreatBC
import Derived.Test.YtipfnhfcoolhaaaGreatBB
import Derived.Sort.Walk0
namespace Go.Proofs.YtipfnhfcoolhaaaGreat.Aw
section
/-! What the program's small functions compute, in plain Lean. -/
open Go
set_option linter.unusedVariables false
/-- May a byte stand in a key? -/
def keyByte (b : Int) : Prop := (97 ≤ b ∧ b ≤ 122) ∨ (65 ≤ b ∧ b ≤ 90) ∨ (48 ≤ b ∧ b ≤ 57) ∨ b = 95
instance (b : Int) : Decidable (keyByte b) := by unfold keyByte; infer_instance
def keyOk (s : ByteArray) : Bool := decide (1 ≤ s.size ∧ s.size ≤ 4) && (List.range s.size).all fun i => decide (keyByte (bt s i))
def kindW (k : Int) : ByteArray := if k = 1 then ⟨#[99]⟩ else if k = 2 then ⟨#[103]⟩ else if k = 3 then ⟨#[109, 115]⟩ else ⟨#[]⟩
theorem kindW_empty (k : Int) : kindW k = ⟨#[]⟩ ↔ ¬ (1 ≤ k ∧ k ≤ 3) := by
  unfold kindW
  split
  · simp; omega
  · split
    · simp; omega
    · split
      · simp; omega
      · simp; omega
def opOk (o : OpD) : Bool :=
  if o.kind = 1 then keyOk o.key && decide (1 ≤ o.what ∧ o.what ≤ 3) && decide (o.val = 0)
  else if o.kind = 2 then keyOk o.key && decide (o.what = 0) && decide (0 ≤ o.val ∧ o.val ≤ 65535)
  else if o.kind = 3 then decide (o = ⟨3, ⟨#[]⟩, 0, 0⟩) else false
end
section
/-! What the program's functions on models, logs and jobs compute, in plain Lean. -/
open Go
set_option linter.unusedVariables false
/-! ### Searching -/
section
variable {α : Type}
def NoneTo (p : α → Bool) (xs : List α) (i : Nat) : Prop := ∀ j (h : j < xs.length), j < i → p xs[j] = false
theorem NoneTo.zero (p : α → Bool) (xs : List α) : NoneTo p xs 0 := fun _ _ h => by omega
theorem NoneTo.succ {p : α → Bool} {xs : List α} {i : Nat} (h : NoneTo p xs i) (hi : i < xs.length) (hp : p xs[i] = false) : NoneTo p xs (i + 1) := fun j hj hl => by
  rcases Nat.lt_succ_iff_lt_or_eq.1 hl with hl | rfl
  · exact h j hj hl
  · exact hp
theorem find_hit {p : α → Bool} {xs : List α} {i : Nat} (h : NoneTo p xs i) (hi : i < xs.length) (hp : p xs[i] = true) : xs.find? p = some xs[i] := by
  rw [List.find?_eq_some_iff_getElem]
  exact ⟨hp, i, hi, rfl, fun j hj => by simp [h j (by omega) hj]⟩
theorem find_none {p : α → Bool} {xs : List α} {i : Nat} (h : NoneTo p xs i) (hi : xs.length ≤ i) : xs.find? p = none := by
  rw [List.find?_eq_none]
  intro x hx
  obtain ⟨j, hj, rfl⟩ := List.mem_iff_getElem.1 hx
  simp [h j hj (by omega)]
def firstIdx (p : α → Bool) (xs : List α) : Int := match xs.findIdx? p with | some i => i | none => -1
theorem idx_hit {p : α → Bool} {xs : List α} {i : Nat} (h : NoneTo p xs i) (hi : i < xs.length) (hp : p xs[i] = true) : firstIdx p xs = i := by
  unfold firstIdx
  rw [List.findIdx?_eq_some_iff_getElem.2 ⟨hi, hp, fun j hj => by simp [h j (by omega) hj]⟩]
theorem idx_none {p : α → Bool} {xs : List α} {i : Nat} (h : NoneTo p xs i) (hi : xs.length ≤ i) : firstIdx p xs = -1 := by
  unfold firstIdx
  rw [List.findIdx?_eq_none_iff.2]
  intro x hx
  obtain ⟨j, hj, rfl⟩ := List.mem_iff_getElem.1 hx
  exact h j hj (by omega)
theorem firstIdx_cases (p : α → Bool) (xs : List α) : (firstIdx p xs = -1 ∧ xs.find? p = none) ∨ ∃ i, ∃ h : i < xs.length, firstIdx p xs = (i : Int) ∧ p xs[i] = true ∧ xs.find? p = some xs[i] ∧ NoneTo p xs i := by
  unfold firstIdx
  cases h : xs.findIdx? p with
  | none =>
    refine .inl ⟨rfl, ?_⟩
    rw [List.findIdx?_eq_none_iff] at h
    rw [List.find?_eq_none]
    intro x hx; simp [h x hx]
  | some i =>
    obtain ⟨h1, h2, h3⟩ := List.findIdx?_eq_some_iff_getElem.1 h
    have h4 : NoneTo p xs i := fun j hj hl => by simpa using h3 j hl
    exact .inr ⟨i, h1, rfl, h2, find_hit h4 h1 h2, h4⟩
def AllTo (p : α → Bool) (xs : List α) (i : Nat) : Prop := ∀ j (h : j < xs.length), j < i → p xs[j] = true
theorem AllTo.zero (p : α → Bool) (xs : List α) : AllTo p xs 0 := fun _ _ h => by omega
theorem AllTo.succ {p : α → Bool} {xs : List α} {i : Nat} (h : AllTo p xs i) (hi : i < xs.length) (hp : p xs[i] = true) : AllTo p xs (i + 1) := fun j hj hl => by
  rcases Nat.lt_succ_iff_lt_or_eq.1 hl with hl | rfl
  · exact h j hj hl
  · exact hp
theorem all_done {p : α → Bool} {xs : List α} {i : Nat} (h : AllTo p xs i) (hi : xs.length ≤ i) : xs.all p = true := by
  rw [List.all_eq_true]
  intro x hx
  obtain ⟨j, hj, rfl⟩ := List.mem_iff_getElem.1 hx
  exact h j hj (by omega)
theorem all_fail {p : α → Bool} {xs : List α} {i : Nat} (hi : i < xs.length) (hp : p xs[i] = false) : xs.all p = false := by
  rw [List.all_eq_false]
  exact ⟨xs[i], List.getElem_mem hi, by simp [hp]⟩
def cnt (p : α → Bool) (xs : List α) (i : Nat) : Int := (xs.take i).countP p
theorem cnt_zero (p : α → Bool) (xs : List α) : cnt p xs 0 = 0 := by simp [cnt]
theorem cnt_yes {p : α → Bool} {xs : List α} {i : Nat} (hi : i < xs.length) (hp : p xs[i] = true) : cnt p xs (i + 1) = cnt p xs i + 1 := by
  unfold cnt
  rw [List.take_succ_eq_append_getElem hi, List.countP_append]; simp [hp]
theorem cnt_no {p : α → Bool} {xs : List α} {i : Nat} (hi : i < xs.length) (hp : p xs[i] = false) : cnt p xs (i + 1) = cnt p xs i := by
  unfold cnt
  rw [List.take_succ_eq_append_getElem hi, List.countP_append]; simp [hp]
theorem cnt_succ {p : α → Bool} {xs : List α} {i : Nat} (hi : i < xs.length) : cnt p xs (i + 1) = cnt p xs i + if p xs[i] = true then 1 else 0 := by
  split
  · rename_i h; exact cnt_yes hi h
  · rename_i h; rw [cnt_no hi (by simpa using h)]; omega
theorem cnt_le (p : α → Bool) (xs : List α) (i : Nat) : 0 ≤ cnt p xs i ∧ cnt p xs i ≤ i := by
  unfold cnt
  have := List.countP_le_length (p := p) (l := xs.take i)
  simp at this
  omega
theorem cnt_all {p : α → Bool} {xs : List α} {i : Nat} (hi : xs.length ≤ i) : cnt p xs i = xs.countP p := by
  unfold cnt; rw [List.take_of_length_le hi]
end
/-! ### Models and logs -/
def modelKind (m : ModelD) (key : ByteArray) : Int := match m.keys.find? (fun k => decide (k.key = key)) with | some k => k.kind | none => 0
def row0 : RowD := ⟨⟨#[]⟩, 0, 0, false, 0, 0, 0, 0, 0, 0⟩
def modelRow (m : ModelD) (key : ByteArray) : RowD := match m.rows.find? (fun r => decide (r.key = key)) with
  | some r => r
  | none => if modelKind m key = 0 then row0 else { row0 with key := key, kind := modelKind m key }
def swapAt (l : List EvD) (win : Int) : Int := match l.find? (fun e => decide (e.kind = 2 ∧ e.op.kind = 3 ∧ e.win = win)) with | some e => e.tm | none => -1
def among (l : List EvD) (kind : Int) : Int := l.countP fun e => decide (e.kind = kind)
def codesIn (l : List EvD) (code : Int) : Int := l.countP fun e => decide (e.kind = 3 ∧ e.code = code)
def placeOf (l : List EvD) (kind serial : Int) : Int := firstIdx (fun e => decide (e.kind = kind ∧ e.serial = serial)) l
def inTime (l : List EvD) (a b : Int) : Bool := decide (0 ≤ placeOf l 3 a ∧ 0 ≤ placeOf l 1 b ∧ placeOf l 3 a < placeOf l 1 b)
/-! ### Jobs -/
def placeOk (kind pc : Int) : Prop := pc = 11 ∨ (if kind = 3 then 12 ≤ pc ∧ pc ≤ 15 else if kind = 1 then pc = 0 ∨ pc = 1 else pc = 0 ∨ (2 ≤ pc ∧ pc ≤ 10))
instance (k p : Int) : Decidable (placeOk k p) := by unfold placeOk; infer_instance
def countOk (j : JobD) : Prop :=
  if j.pc = 0 ∨ j.pc = 1 then 0 ≤ j.k ∧ j.k ≤ 3 else if j.pc = 8 then 0 ≤ j.k ∧ j.k ≤ 2
  else if j.pc = 14 then 0 ≤ j.k ∧ j.k ≤ 3 ∧ (j.keys.length : Int) = j.k ∧ (j.raw.length : Int) = 0
  else if j.pc = 15 then 0 ≤ j.k ∧ j.k ≤ 31 ∧ (j.keys.length : Int) = 4 ∧ (j.raw.length : Int) = j.k
  else if j.pc = 13 ∨ j.pc = 12 then (j.keys.length : Int) = 0 ∧ (j.raw.length : Int) = 0 else True
instance (j : JobD) : Decidable (countOk j) := by unfold countOk; infer_instance
def jobOk (j : JobD) : Bool := opOk j.op && decide (placeOk j.op.kind j.pc) && decide (countOk j) && decide ((0 ≤ j.slot ∧ j.slot ≤ 3) ∧ (0 ≤ j.what ∧ j.what ≤ 3) ∧ (0 ≤ j.e ∧ j.e ≤ 281474976710655) ∧ (0 ≤ j.k ∧ j.k ≤ 32) ∧ (j.keys.length : Int) ≤ 4 ∧ (j.raw.length : Int) ≤ 32)
def queueOk (t : Nat) (q : QueueD) : Bool := decide ((q.ops.length : Int) ≤ 10) && q.ops.all fun o => opOk o && (decide (o.kind = 3) == decide ((t : Int) = 3))
def queueAt (l : List QueueD) (t : Nat) : Bool := match l[t]? with | some q => queueOk t q | none => true
def todoOk (l : List QueueD) : Bool := decide ((l.length : Int) = 4) && (List.range l.length).all (queueAt l)
end
section
/-! Keys as numbers, in plain Lean. -/
open Go Go.RowKit
set_option linter.unusedVariables false
/-- The number of the first i bytes. -/
def packN (s : ByteArray) : Nat → Int
  | 0 => 0
  | i + 1 => packN s i * 256 + bt s i
theorem packN_bd (s : ByteArray) : ∀ i, 0 ≤ packN s i ∧ packN s i < 256 ^ i
  | 0 => by simp [packN]
  | i + 1 => by
    have h := packN_bd s i
    have hb := bt_le s i
    simp only [packN, Int.pow_succ]
    omega
def packKey (s : ByteArray) : Int := if keyOk s = true then packN s s.size else 0
theorem packKey_bd (s : ByteArray) : 0 ≤ packKey s ∧ packKey s < 4294967296 := by
  unfold packKey
  split
  · rename_i h
    have h := (of_decide_eq_true ((Bool.and_eq_true _ _).mp h).1)
    have hp := packN_bd s s.size
    have : s.size = 1 ∨ s.size = 2 ∨ s.size = 3 ∨ s.size = 4 := by omega
    rcases this with e | e | e | e <;> rw [e] at hp ⊢ <;> simp at hp <;> omega
  · omega
def bytesF : Nat → Int → List Int → List Int
  | 0, _, l => l
  | f + 1, n, l => if 0 < n then bytesF f (n / 256) (n % 256 :: l) else l
def unpackKey (n : Int) : ByteArray × Bool := if 1 ≤ n ∧ n ≤ 4294967295 ∧ keyOk (strOfNums (bytesF 4 n [])) = true then (strOfNums (bytesF 4 n []), true) else (⟨#[]⟩, false)
def tagged (key : ByteArray) (kind : Int) : Int := if keyOk key = true ∧ 1 ≤ kind ∧ kind ≤ 3 then packKey key * 4 + kind else 0
def untag (n : Int) : ByteArray × Int := if 1 ≤ n ∧ n ≤ 17179869183 ∧ (unpackKey (n / 4)).2 = true ∧ 1 ≤ n % 4 then ((unpackKey (n / 4)).1, n % 4) else (⟨#[]⟩, 0)
/-- The last w bytes of a number, the highest first. -/
def fixL : Nat → Int → List Int
  | 0, _ => []
  | w + 1, n => fixL w (n / 256) ++ [n % 256]
theorem fixL_len : ∀ (w : Nat) (n : Int), (fixL w n).length = w
  | 0, _ => rfl
  | w + 1, n => by simp [fixL, fixL_len w]
theorem fixL_bd : ∀ (w : Nat) (n x : Int), x ∈ fixL w n → 0 ≤ x ∧ x < 256
  | 0, _, x, h => by simp [fixL] at h
  | w + 1, n, x, h => by
    simp only [fixL, List.mem_append, List.mem_singleton] at h
    rcases h with h | rfl
    · exact fixL_bd w _ x h
    · omega
/-- What Fixed makes of a number that is not below 0. -/
def fixedS (n : Int) (w : Nat) : ByteArray := if 0 ≤ n ∧ n < 256 ^ w then strOfNums (fixL w n) else ⟨#[]⟩
theorem bytesF_fix : ∀ (w f : Nat) (n : Int) (l : List Int), w ≤ f → 0 ≤ n → n < 256 ^ w → (w = 0 ∨ 256 ^ (w - 1) ≤ n) → bytesF f n l = fixL w n ++ l
  | 0, f, n, l, _, h0, h1, _ => by
    have : n = 0 := by simp at h1; omega
    subst this
    cases f <;> simp [bytesF, fixL]
  | w + 1, f, n, l, hf, h0, h1, h2 => by
    cases f with
    | zero => omega
    | succ f =>
      have h2 : (256 : Int) ^ w ≤ n := by simpa using h2
      have hp : (0 : Int) < 256 ^ w := Int.pow_pos (by decide)
      rw [Int.pow_succ] at h1
      simp only [bytesF]
      rw [if_pos (by omega), bytesF_fix w f (n / 256) _ (by omega) (by omega) (by omega) ?_]
      · simp [fixL]
      · cases w with
        | zero => exact .inl rfl
        | succ w =>
          right
          rw [Int.pow_succ] at h2
          simp only [Nat.add_sub_cancel]
          omega
def packL (l : List Int) : Int := l.foldl (fun a b => a * 256 + b) 0
theorem packN_L (l : List Int) (h0 : ∀ x ∈ l, 0 ≤ x ∧ x < 256) : ∀ i, i ≤ l.length → packN (strOfNums l) i = packL (l.take i)
  | 0, _ => by simp [packN, packL]
  | i + 1, h => by
    rw [packN, packN_L l h0 i (by omega), bt_nums l i (by omega) h0, List.take_succ_eq_append_getElem (by omega)]
    simp only [packL, List.foldl_append, List.foldl_cons, List.foldl_nil]
theorem packL_fix : ∀ (w : Nat) (n : Int), 0 ≤ n → n < 256 ^ w → packL (fixL w n) = n
  | 0, n, h0, h1 => by simp at h1; simp [fixL, packL]; omega
  | w + 1, n, h0, h1 => by
    rw [Int.pow_succ] at h1
    have := packL_fix w (n / 256) (by omega) (by omega)
    simp only [packL] at this ⊢
    rw [fixL, List.foldl_append, this]
    simp; omega
theorem fixL_zero : ∀ (w : Nat) (n : Int), 0 ≤ n → n < 256 ^ w → fixL (w + 1) n = 0 :: fixL w n
  | 0, n, h0, h1 => by
    have : n = 0 := by simp at h1; omega
    subst this; rfl
  | w + 1, n, h0, h1 => by
    rw [Int.pow_succ] at h1
    rw [fixL, fixL_zero w (n / 256) (by omega) (by omega)]; rfl
theorem keyOk_byte {l : List Int} (h0 : ∀ x ∈ l, 0 ≤ x ∧ x < 256) (hk : keyOk (strOfNums l) = true) : ∀ x ∈ l, keyByte x := by
  intro x hx
  obtain ⟨i, hi, rfl⟩ := List.mem_iff_getElem.1 hx
  have h1 := ((Bool.and_eq_true _ _).mp hk).2
  rw [List.all_eq_true] at h1
  have h2 := h1 i (by rw [List.mem_range, strOfNums_size]; exact hi)
  rw [bt_nums l i hi h0] at h2
  exact of_decide_eq_true h2
theorem packKey_fix {w : Nat} {n : Int} (h0 : 0 ≤ n) (h1 : n < 256 ^ w) (hk : keyOk (strOfNums (fixL w n)) = true) : packKey (strOfNums (fixL w n)) = n := by
  rw [packKey, if_pos hk, packN_L _ (fixL_bd w n) _ (by rw [strOfNums_size]; exact Nat.le_refl _), strOfNums_size, List.take_of_length_le (Nat.le_refl _), packL_fix w n h0 h1]
theorem unpack_hit {n : Int} {w : Nat} (hw : 1 ≤ w ∧ w ≤ 4) (h0 : 0 < n) (h1 : n < 256 ^ w) (hp : packKey (strOfNums (fixL w n)) = n) : unpackKey n = (strOfNums (fixL w n), true) := by
  have hk : keyOk (strOfNums (fixL w n)) = true := by
    cases h : keyOk (strOfNums (fixL w n)) with
    | true => rfl
    | false => rw [packKey, if_neg (by simp [h])] at hp; omega
  have hge : (256 : Int) ^ (w - 1) ≤ n := by
    by_cases hlt : n < 256 ^ (w - 1)
    · exfalso
      obtain ⟨v, rfl⟩ : ∃ v, w = v + 1 := ⟨w - 1, by omega⟩
      have hz := fixL_zero v n (by omega) (by simpa using hlt)
      have := keyOk_byte (fixL_bd _ n) hk 0 (by rw [hz]; exact List.mem_cons_self ..)
      unfold keyByte at this; omega
    · omega
  have hle : (256 : Int) ^ w ≤ 256 ^ 4 := by
    have : w = 1 ∨ w = 2 ∨ w = 3 ∨ w = 4 := by omega
    rcases this with rfl | rfl | rfl | rfl <;> simp
  have hb := bytesF_fix w 4 n [] hw.2 (by omega) h1 (.inr hge)
  rw [List.append_nil] at hb
  rw [unpackKey, hb, if_pos ⟨by omega, by simp at hle; omega, hk⟩]
theorem unpack_none {n : Int} (h : ∀ w : Nat, 1 ≤ w → w ≤ 4 → ¬ (0 < n ∧ n < 256 ^ w ∧ packKey (strOfNums (fixL w n)) = n)) : unpackKey n = (⟨#[]⟩, false) := by
  rw [unpackKey, if_neg]
  rintro ⟨h0, h1, hk⟩
  have go : ∀ w : Nat, 1 ≤ w → w ≤ 4 → n < 256 ^ w → 256 ^ (w - 1) ≤ n → False := by
    intro w hw1 hw2 hl hg
    have hb := bytesF_fix w 4 n [] hw2 (by omega) hl (.inr hg)
    rw [List.append_nil] at hb
    rw [hb] at hk
    exact h w hw1 hw2 ⟨by omega, hl, packKey_fix (by omega) hl hk⟩
  by_cases h2 : n < 256
  · exact go 1 (by omega) (by omega) (by simpa using h2) (by simp; omega)
  by_cases h3 : n < 65536
  · exact go 2 (by omega) (by omega) (by simp; omega) (by simp; omega)
  by_cases h4 : n < 16777216
  · exact go 3 (by omega) (by omega) (by simp; omega) (by simp; omega)
  · exact go 4 (by omega) (by omega) (by simp; omega) (by simp; omega)
end
section
/-! Cells, rows and gauges, in plain Lean. -/
open Go Go.RowKit
set_option linter.unusedVariables false
def wordP (n : Int) : Prop := 0 ≤ n ∧ n ≤ 281474976710655
instance (n : Int) : Decidable (wordP n) := by unfold wordP; infer_instance
def cellsOk (a : List Int) : Bool := (a.all fun n => decide (wordP n)) && decide ((a.length : Int) = 71)
def slotBase (b s : Int) : Int := if (0 ≤ b ∧ b ≤ 1) ∧ 0 ≤ s ∧ s ≤ 3 then 7 + b * 32 + s * 8 else -1
def keyCell (s : Int) : Int := if 0 ≤ s ∧ s ≤ 3 then 3 + s else -1
def packGauge (stamp v : Int) : Int := if (1 ≤ stamp ∧ stamp ≤ 65535) ∧ 0 ≤ v ∧ v ≤ 65535 then stamp * 65536 + v else 0
def unpackGauge (n : Int) : Int × Int := if 65536 ≤ n ∧ n ≤ 4294967295 then (n / 65536, n % 65536) else (0, 0)
def quiet (r : RowD) : Bool := decide (r.sum = 0) && !r.set && decide (r.n = 0)
def timerP (r : RowD) : Prop := if r.n = 0 then r.mn = 0 ∧ r.mx = 0 ∧ r.total = 0 ∧ r.dropped = 0 else
  (1 ≤ r.n ∧ r.n ≤ 3) ∧ (0 ≤ r.mn ∧ r.mn ≤ r.mx) ∧ r.mx ≤ 65535 ∧ (r.mn * r.n ≤ r.total ∧ r.total ≤ r.mx * r.n) ∧ (0 ≤ r.dropped ∧ r.dropped ≤ 65535) ∧ (r.dropped = 0 ∨ r.n = 3)
instance (r : RowD) : Decidable (timerP r) := by unfold timerP; infer_instance
def rowP (r : RowD) : Prop := keyOk r.key = true ∧
  if r.kind = 1 then wordP r.sum ∧ r.set = false ∧ r.last = 0 ∧ r.n = 0 ∧ r.mn = 0 ∧ r.mx = 0 ∧ r.total = 0 ∧ r.dropped = 0
  else if r.kind = 2 then r.sum = 0 ∧ (0 ≤ r.last ∧ r.last ≤ 65535) ∧ (r.set = true ∨ r.last = 0) ∧ r.n = 0 ∧ r.mn = 0 ∧ r.mx = 0 ∧ r.total = 0 ∧ r.dropped = 0
  else if r.kind = 3 then r.sum = 0 ∧ r.set = false ∧ r.last = 0 ∧ timerP r else False
instance (r : RowD) : Decidable (rowP r) := by unfold rowP; infer_instance
def rowOk (r : RowD) : Bool := decide (rowP r)
def sampled (r : RowD) (v : Int) : RowD :=
  if rowP r ∧ r.kind = 3 ∧ 0 ≤ v ∧ v ≤ 65535 then
    if r.n = 3 then { r with dropped := if 65535 < r.dropped + 1 then 65535 else r.dropped + 1 }
    else { r with mn := if r.n = 0 then v else if v < r.mn then v else r.mn, mx := if r.n = 0 then v else if v > r.mx then v else r.mx, total := r.total + v, n := r.n + 1 }
  else r
def counted (r : RowD) (v : Int) : RowD := if rowP r ∧ r.kind = 1 ∧ 0 ≤ v ∧ v ≤ 65535 then { r with sum := (r.sum + v) % 281474976710656 } else r
def samples (raw : List Int) : Nat → RowD → RowD
  | 0, r => r
  | k + 1, r => sampled (samples raw k r) (IntKind.i64.wrap (raw.getD (5 + k) 0 - 1))
def timerRow (raw : List Int) (r : RowD) : RowD :=
  let r := samples raw (min 3 (raw.getD 4 0).toNat) r
  if r.n = 3 ∧ 3 < raw.getD 4 0 then { r with dropped := if 65535 < raw.getD 4 0 - 3 then 65535 else raw.getD 4 0 - 3 } else r
def rowFrom (tag : Int) (raw : List Int) : RowD :=
  if (untag tag).2 = 0 ∨ ¬ (raw.length : Int) = 8 then row0 else
  let r : RowD := { row0 with key := (untag tag).1, kind := (untag tag).2 }
  if (untag tag).2 = 1 then { r with sum := (raw.getD 0 0 + raw.getD 1 0) % 281474976710656 }
  else if (untag tag).2 = 2 then { r with set := decide (0 < (unpackGauge (raw.getD 3 0)).1), last := (unpackGauge (raw.getD 3 0)).2 }
  else timerRow raw r
def rowIn (a : List Int) (b s : Int) : RowD := if cellsOk a = true ∧ 0 ≤ slotBase b s then rowFrom (a.getD (keyCell s).toNat 0) ((a.drop (slotBase b s).toNat).take 8) else row0
def RTo (p : Nat → Bool) (i : Nat) : Prop := ∀ j, j < i → p j = true
theorem RTo.zero (p : Nat → Bool) : RTo p 0 := fun _ h => by omega
theorem RTo.succ {p : Nat → Bool} {i : Nat} (h : RTo p i) (hp : p i = true) : RTo p (i + 1) := fun j hj => by
  rcases Nat.lt_succ_iff_lt_or_eq.1 hj with hj | rfl
  · exact h j hj
  · exact hp
theorem range_done {p : Nat → Bool} {n i : Nat} (h : RTo p i) (hi : n ≤ i) : (List.range n).all p = true := by
  rw [List.all_eq_true]
  intro j hj
  exact h j (by have := List.mem_range.1 hj; omega)
theorem range_fail {p : Nat → Bool} {n i : Nat} (hi : i < n) (hp : p i = false) : (List.range n).all p = false := by
  rw [List.all_eq_false]
  exact ⟨i, List.mem_range.2 hi, by simp [hp]⟩
def keyLe (a b : ByteArray) : Bool := Op.bytesLess a.toList b.toList || decide (a = b)
def repAt (l : List RowD) (i : Nat) : Bool := rowOk (l.getD i row0) && !quiet (l.getD i row0) && (decide (i = 0) || !keyLe (l.getD i row0).key (l.getD (i - 1) row0).key)
def reportOk (l : List RowD) : Bool := (List.range l.length).all (repAt l) && decide ((l.length : Int) ≤ 4)
def krow0 : KRowD := ⟨⟨#[]⟩, 0⟩
def keyAt (l : List KRowD) (i : Nat) : Bool := !decide (tagged (l.getD i krow0).key (l.getD i krow0).kind = 0) && (decide (i = 0) || !keyLe (l.getD i krow0).key (l.getD (i - 1) krow0).key)
def modelOk (m : ModelD) : Bool := (List.range m.keys.length).all (keyAt m.keys) && (m.rows.all fun r => decide (modelKind m r.key = r.kind)) && decide ((m.keys.length : Int) ≤ 4) && reportOk m.rows
end
section
/-! Rows in the order of their keys, in plain Lean. -/
open Go
set_option linter.unusedVariables false
/-- One key is ahead of another. -/
def klt (a b : ByteArray) : Prop := Op.bytesLess a.toList b.toList = true
instance (a b : ByteArray) : Decidable (klt a b) := by unfold klt; infer_instance
theorem klt_iff (a b : ByteArray) : klt a b ↔ a.toList < b.toList := by unfold klt; rw [bytesLess_eq]; simp
theorem klt_irrefl (a : ByteArray) : ¬ klt a a := by rw [klt_iff]; exact List.lt_irrefl _
theorem klt_trans {a b c : ByteArray} (h : klt a b) (k : klt b c) : klt a c := by rw [klt_iff] at *; exact List.lt_trans h k
theorem toList_inj {a b : ByteArray} (h : a.toList = b.toList) : a = b := by
  rw [ByteArray.toList_eq, ByteArray.toList_eq] at h
  exact ByteArray.ext (Array.toList_inj.mp h)
theorem klt_tri (a b : ByteArray) : klt a b ∨ a = b ∨ klt b a := by
  rw [klt_iff, klt_iff]
  by_cases h : a.toList < b.toList
  · exact .inl h
  · by_cases k : b.toList < a.toList
    · exact .inr (.inr k)
    · exact .inr (.inl (toList_inj (List.le_antisymm (List.not_lt.1 k) (List.not_lt.1 h))))
theorem klt_asymm {a b : ByteArray} (h : klt a b) : ¬ klt b a := fun k => klt_irrefl _ (klt_trans h k)
section
variable {α : Type} (kf : α → ByteArray)
def SortedK (l : List α) : Prop := l.Pairwise fun x y => klt (kf x) (kf y)
/-- One is put ahead of the first whose key is greater. -/
def insK : List α → α → List α
  | [], r => [r]
  | x :: l, r => if klt (kf r) (kf x) then r :: x :: l else x :: insK l r
def hasK (l : List α) (key : ByteArray) : Bool := l.any fun x => decide (kf x = key)
def putK (l : List α) (r : α) : List α := if hasK kf l (kf r) = true then l else insK kf l r
variable {kf}
theorem insK_at : ∀ {l : List α} {r : α} {i : Nat}, (∀ k (h : k < l.length), k < i → ¬ klt (kf r) (kf l[k])) → (∀ k (h : k < l.length), i ≤ k → klt (kf r) (kf l[k])) → insK kf l r = l.take i ++ r :: l.drop i
  | [], r, i, _, _ => by simp [insK]
  | x :: l, r, 0, h1, h2 => by
    have := h2 0 (by simp) (Nat.le_refl _)
    simp only [List.getElem_cons_zero] at this
    simp [insK, this]
  | x :: l, r, i + 1, h1, h2 => by
    have := h1 0 (by simp) (by omega)
    simp only [List.getElem_cons_zero] at this
    simp only [insK, this, if_false, List.take_succ_cons, List.drop_succ_cons, List.cons_append]
    rw [insK_at (i := i) (fun k h hk => h1 (k + 1) (by simpa using h) (by omega)) (fun k h hk => h2 (k + 1) (by simpa using h) (by omega))]
def gtAny (l : List α) (key : ByteArray) : Bool := l.any fun x => decide (klt key (kf x))
theorem insK_none : ∀ {l : List α} {r : α}, gtAny (kf := kf) l (kf r) = false → insK kf l r = l ++ [r]
  | [], r, _ => rfl
  | x :: l, r, h => by
    simp only [gtAny, List.any_cons, Bool.or_eq_false_iff, decide_eq_false_iff_not] at h
    simp only [insK, h.1, if_false, List.cons_append]
    rw [insK_none h.2]
theorem insK_snoc : ∀ (l : List α) (x r : α), insK kf (l ++ [x]) r = if gtAny (kf := kf) l (kf r) = true then insK kf l r ++ [x] else if klt (kf r) (kf x) then l ++ [r, x] else l ++ [x, r]
  | [], x, r => by simp [insK, gtAny]
  | y :: l, x, r => by
    simp only [List.cons_append, insK, gtAny, List.any_cons, Bool.or_eq_true, decide_eq_true_eq]
    by_cases h : klt (kf r) (kf y)
    · simp [h]
    · simp only [h, if_false, false_or]
      rw [insK_snoc l x r]
      simp only [gtAny]
      by_cases g : (l.any fun x => decide (klt (kf r) (kf x))) = true
      · simp [g]
      · by_cases k : klt (kf r) (kf x)
        · simp [g, k]
        · simp [g, k]
theorem mem_insK {l : List α} {r x : α} : x ∈ insK kf l r ↔ x = r ∨ x ∈ l := by
  induction l with
  | nil => simp [insK]
  | cons y l ih =>
    simp only [insK]
    split
    · simp
    · simp only [List.mem_cons, ih]
      constructor
      · rintro (h | h | h)
        · exact .inr (.inl h)
        · exact .inl h
        · exact .inr (.inr h)
      · rintro (h | h | h)
        · exact .inr (.inl h)
        · exact .inl h
        · exact .inr (.inr h)
theorem SortedK.ins {l : List α} {r : α} (h : SortedK kf l) (hn : hasK kf l (kf r) = false) : SortedK kf (insK kf l r) := by
  induction l with
  | nil => simp [insK, SortedK]
  | cons y l ih =>
    unfold SortedK at h
    rw [List.pairwise_cons] at h
    simp only [hasK, List.any_cons, Bool.or_eq_false_iff, decide_eq_false_iff_not] at hn
    simp only [insK]
    split
    · rename_i hlt
      unfold SortedK
      refine List.pairwise_cons.2 ⟨fun z hz => ?_, List.pairwise_cons.2 h⟩
      rcases List.mem_cons.1 hz with rfl | hz
      · exact hlt
      · exact klt_trans hlt (h.1 z hz)
    · rename_i hlt
      unfold SortedK
      refine List.pairwise_cons.2 ⟨fun z hz => ?_, ih h.2 hn.2⟩
      rcases mem_insK.1 hz with rfl | hz
      · rcases klt_tri (kf y) (kf z) with h3 | h3 | h3
        · exact h3
        · exact absurd h3 hn.1
        · exact absurd h3 hlt
      · exact h.1 z hz
theorem SortedK.put {l : List α} {r : α} (h : SortedK kf l) : SortedK kf (putK kf l r) := by
  unfold putK
  split
  · exact h
  · exact h.ins (by simpa using (by assumption : ¬ hasK kf l (kf r) = true))
theorem insK_length (l : List α) (r : α) : (insK kf l r).length = l.length + 1 := by
  induction l with
  | nil => rfl
  | cons x l ih => simp only [insK]; split <;> simp [ih]
theorem putK_length (l : List α) (r : α) : (putK kf l r).length ≤ l.length + 1 := by
  unfold putK
  split
  · omega
  · rw [insK_length]; omega
/-- Where a search by halves ends. -/
def At (kf : α → ByteArray) (l : List α) (key : ByteArray) (i : Nat) : Prop := i ≤ l.length ∧ (∀ k (h : k < l.length), k < i → klt (kf l[k]) key) ∧ ∀ k (h : k < l.length), i ≤ k → ¬ klt (kf l[k]) key
theorem At.has {l : List α} {key : ByteArray} {i : Nat} (hs : SortedK kf l) (h : At kf l key i) : hasK kf l key = decide (∃ h : i < l.length, kf l[i] = key) := by
  rw [Bool.eq_iff_iff, decide_eq_true_eq, hasK, List.any_eq_true]
  constructor
  · rintro ⟨x, hx, he⟩
    have he := of_decide_eq_true he
    obtain ⟨k, hk, rfl⟩ := List.mem_iff_getElem.1 hx
    rcases Nat.lt_trichotomy k i with h1 | h1 | h1
    · have := h.2.1 k hk h1; rw [he] at this; exact absurd this (klt_irrefl _)
    · subst h1; exact ⟨hk, he⟩
    · have h2 : i < l.length := by omega
      have h3 := List.pairwise_iff_getElem.1 hs i k h2 hk h1
      rw [he] at h3
      exact absurd h3 (h.2.2 i h2 (Nat.le_refl _))
  · rintro ⟨hi, he⟩
    exact ⟨l[i], List.getElem_mem hi, decide_eq_true he⟩
theorem At.ins {l : List α} {r : α} {i : Nat} (h : At kf l (kf r) i) (hn : hasK kf l (kf r) = false) : insK kf l r = l.take i ++ r :: l.drop i := by
  refine insK_at (fun k hk hlt => klt_asymm (h.2.1 k hk hlt)) fun k hk hle => ?_
  rcases klt_tri (kf r) (kf l[k]) with h1 | h1 | h1
  · exact h1
  · exfalso
    simp only [hasK, List.any_eq_false, decide_eq_true_eq] at hn
    exact hn _ (List.getElem_mem hk) h1.symm
  · exact absurd h1 (h.2.2 k hk hle)
end
/-- One row more, if it tells of anything. -/
def addRow (l : List RowD) (r : RowD) : List RowD := if r.kind = 0 ∨ quiet r = true then l else putK RowD.key l r
theorem addRow_sorted {l : List RowD} {r : RowD} (h : SortedK RowD.key l) : SortedK RowD.key (addRow l r) := by
  unfold addRow; split
  · exact h
  · exact h.put
theorem addRow_length (l : List RowD) (r : RowD) : (addRow l r).length ≤ l.length + 1 := by
  unfold addRow; split
  · omega
  · exact putK_length _ _
def reportTo (a : List Int) (b : Int) : Nat → List RowD
  | 0 => []
  | s + 1 => addRow (reportTo a b s) (rowIn a b s)
def reportIn (a : List Int) (b : Int) : List RowD := reportTo a b 4
theorem reportTo_sorted (a : List Int) (b : Int) : ∀ s, SortedK RowD.key (reportTo a b s)
  | 0 => .nil
  | s + 1 => addRow_sorted (reportTo_sorted a b s)
theorem reportTo_length (a : List Int) (b : Int) : ∀ s, (reportTo a b s).length ≤ s
  | 0 => Nat.le_refl _
  | s + 1 => Nat.le_trans (addRow_length _ _) (by have := reportTo_length a b s; omega)
end
section
/-! The table of keys and the cells, in plain Lean. -/
open Go
set_option linter.unusedVariables false
/-- FNV, of the first i bytes. -/
def hashN (s : ByteArray) : Nat → Nat
  | 0 => 2166136261
  | i + 1 => (hashN s i ^^^ (bt s i).toNat) * 16777619 % 4294967296
def hashK (s : ByteArray) : Int := (hashN s s.size : Nat)
theorem hashN_lt (s : ByteArray) : ∀ i, hashN s i < 4294967296
  | 0 => by simp [hashN]
  | i + 1 => by simp only [hashN]; exact Nat.mod_lt _ (by decide)
def probe (key : ByteArray) (n : Int) : Int := if keyOk key = true ∧ 0 ≤ n ∧ n ≤ 3 then (hashK key + n) % 4 else -1
theorem probe_bd {key : ByteArray} {n : Int} (hk : keyOk key = true) (h0 : 0 ≤ n) (h1 : n ≤ 3) : 0 ≤ probe key n ∧ probe key n ≤ 3 := by
  rw [probe, if_pos ⟨hk, h0, h1⟩]; omega
def keyAt6 (a : List Int) (key : ByteArray) (n : Nat) : Int := a.getD (3 + (probe key n).toNat) 0
/-- Where the search for a key ends, from the n-th step on: slot, kind, free slot. -/
def find6 (a : List Int) (key : ByteArray) : Nat → Nat → Int × Int × Int
  | 0, _ => (-1, 0, -1)
  | f + 1, n => if keyAt6 a key n = 0 then (-1, 0, probe key n) else if (untag (keyAt6 a key n)).1 = key then (probe key n, (untag (keyAt6 a key n)).2, -1) else find6 a key f (n + 1)
def findKey (a : List Int) (key : ByteArray) : Int × Int := if cellsOk a = true ∧ keyOk key = true then ((find6 a key 4 0).1, (find6 a key 4 0).2.1) else (-1, 0)
/-- The probe's end: a slot, and whether the key is there. -/
def probed (a : List Int) (key : ByteArray) : Int × Bool :=
  if (find6 a key 4 0).1 ≠ -1 then ((find6 a key 4 0).1, true) else ((find6 a key 4 0).2.2, false)
theorem find6_bd {a : List Int} {key : ByteArray} (hk : keyOk key = true) : ∀ (f n : Nat), n + f ≤ 4 → -1 ≤ (find6 a key f n).1 ∧ (find6 a key f n).1 ≤ 3 ∧ -1 ≤ (find6 a key f n).2.2 ∧ (find6 a key f n).2.2 ≤ 3 ∧ ((find6 a key f n).1 ≠ -1 → (find6 a key f n).2.1 = (untag (a.getD (3 + (find6 a key f n).1.toNat) 0)).2 ∧ (untag (a.getD (3 + (find6 a key f n).1.toNat) 0)).1 = key)
  | 0, n, _ => by simp [find6]
  | f + 1, n, h => by
    have hp := probe_bd hk (n := n) (by omega) (by omega)
    simp only [find6]
    split
    · simp; omega
    · split
      · rename_i h1
        refine ⟨by simp; omega, by simp; omega, by simp, by simp, fun _ => ⟨rfl, h1⟩⟩
      · exact find6_bd hk f (n + 1) (by omega)
theorem untag_ok {n : Int} (h : keyOk (untag n).1 = true) : 1 ≤ (untag n).2 ∧ (untag n).2 ≤ 3 := by
  unfold untag at *
  split
  · simp only; omega
  · rename_i hn
    rw [if_neg hn] at h
    exact absurd h (by decide)
theorem findKey_bd {a : List Int} {key : ByteArray} : -1 ≤ (findKey a key).1 ∧ (findKey a key).1 ≤ 3 ∧ ((findKey a key).1 ≠ -1 → 1 ≤ (findKey a key).2 ∧ (findKey a key).2 ≤ 3) := by
  unfold findKey
  split
  · rename_i h
    obtain ⟨h1, h2, _, _, h3⟩ := find6_bd (a := a) h.2 4 0 (by omega)
    refine ⟨h1, h2, fun hn => ?_⟩
    obtain ⟨e1, e2⟩ := h3 hn
    simp only [e1]
    exact untag_ok (by rw [e2]; exact h.2)
  · simp
/-! ### Cells -/
def word : Int := 281474976710656
def loadC (a : List Int) (i : Int) : Int × Bool := if cellsOk a = true ∧ 0 ≤ i ∧ i ≤ 70 then (a.getD i.toNat 0, true) else (0, false)
def storeC (a : List Int) (i n : Int) : List Int × Bool := if cellsOk a = true ∧ (0 ≤ i ∧ i ≤ 70) ∧ wordP n then (a.set i.toNat n, true) else (a, false)
def casC (a : List Int) (i old to : Int) : List Int × Bool := if cellsOk a = true ∧ (0 ≤ i ∧ i ≤ 70) ∧ a.getD i.toNat 0 = old then storeC a i to else (a, false)
def addC (a : List Int) (i n : Int) : List Int × Int := if cellsOk a = true ∧ (0 ≤ i ∧ i ≤ 70) ∧ -281474976710655 ≤ n ∧ n ≤ 281474976710655 then (a.set i.toNat ((a.getD i.toNat 0 + n) % 281474976710656), a.getD i.toNat 0) else (a, -1)
def swapC (a : List Int) (i n : Int) : List Int × Int := if (storeC a i n).2 = true then ((storeC a i n).1, a.getD i.toNat 0) else (a, -1)
theorem cellsOk_iff {a : List Int} : cellsOk a = true ↔ (∀ x ∈ a, wordP x) ∧ a.length = 71 := by
  unfold cellsOk
  simp only [Bool.and_eq_true, List.all_eq_true, decide_eq_true_eq]
  constructor
  · rintro ⟨h1, h2⟩; exact ⟨h1, by omega⟩
  · rintro ⟨h1, h2⟩; exact ⟨h1, by omega⟩
theorem cellsOk_get {a : List Int} (h : cellsOk a = true) (i : Nat) : wordP (a.getD i 0) := by
  rw [List.getD_eq_getElem?_getD]
  by_cases hi : i < a.length
  · rw [List.getElem?_eq_getElem hi]; exact (cellsOk_iff.1 h).1 _ (List.getElem_mem hi)
  · rw [List.getElem?_eq_none (by omega)]; simp [wordP]
theorem cellsOk_set {a : List Int} (h : cellsOk a = true) (i : Nat) {n : Int} (hn : wordP n) : cellsOk (a.set i n) = true := by
  rw [cellsOk_iff] at *
  refine ⟨fun x hx => ?_, by simpa using h.2⟩
  rcases List.mem_or_eq_of_mem_set hx with hx | rfl
  · exact h.1 x hx
  · exact hn
theorem wordP_mod (n : Int) : wordP (n % 281474976710656) := by unfold wordP; omega
/-- A value into a slot of a buffer. -/
def recPut (a : List Int) (b slot kind w v : Int) : List Int × Bool :=
  let at_ := (slotBase b slot).toNat
  if kind = 1 then (a.set (at_ + (w % 2).toNat) ((a.getD (at_ + (w % 2).toNat) 0 + v) % 281474976710656), false)
  else if kind = 2 then
    let st := (a.getD (at_ + 2) 0 + 1) % 281474976710656
    let a1 := a.set (at_ + 2) st
    if (unpackGauge (a1.getD (at_ + 3) 0)).1 ≤ st then (a1.set (at_ + 3) (packGauge st v), false) else (a1, false)
  else
    let k := a.getD (at_ + 4) 0
    let a1 := a.set (at_ + 4) ((k + 1) % 281474976710656)
    if 3 ≤ k then (a1, true) else (a1.set (at_ + 5 + k.toNat) (v + 1), false)
def recordNow (a : List Int) (w : Int) (key : ByteArray) (v : Int) : List Int × Int :=
  if ¬ (cellsOk a = true ∧ (0 ≤ w ∧ w ≤ 2) ∧ keyOk key = true ∧ 0 ≤ v ∧ v ≤ 65535) then (a, 1)
  else if (findKey a key).1 < 0 then (a, 2)
  else
    let r := recPut a (a.getD 0 0 % 2) (findKey a key).1 (findKey a key).2 w v
    (r.1, if r.2 = true then 5 else 0)
def clearTo (a : List Int) (b : Int) : Nat → List Int
  | 0 => a
  | i + 1 => (clearTo a b i).set (7 + b.toNat * 32 + i) 0
def clearBuf (a : List Int) (b : Int) : List Int := if cellsOk a = true ∧ 0 ≤ b ∧ b ≤ 1 then clearTo a b 32 else a
def flushNow (a : List Int) : List Int × List RowD :=
  if cellsOk a = true then (let b := a.getD 0 0 % 2; let x := clearBuf a b; (x.set 0 ((a.getD 0 0 + 1) % 281474976710656), reportIn a b)) else (a, [])
theorem clearTo_length (a : List Int) (b : Int) : ∀ i, (clearTo a b i).length = a.length
  | 0 => rfl
  | i + 1 => by simp [clearTo, clearTo_length a b i]
end
section
/-! Worlds, in plain Lean: is nobody at work; is a buffer being drained. -/
open Go
set_option linter.unusedVariables false
theorem firstIdx_anyS {α : Type} (p : α → Bool) (xs : List α) : decide (0 ≤ firstIdx p xs) = xs.any p := by
  rcases firstIdx_cases p xs with ⟨e1, e2⟩ | ⟨i, hi, e1, e2, e3, -⟩
  · rw [e1, Bool.eq_iff_iff]
    simp
    simpa using e2
  · rw [e1, decide_eq_true (by omega)]
    symm
    rw [List.any_eq_true]
    exact ⟨xs[i], List.getElem_mem hi, e2⟩
def idle (w : WorldD) : Bool := !(w.jobs.any fun j => j.busy) && !(w.todo.any fun q => decide (0 < (q.ops.length : Int)))
def drainJ (b : Int) (j : JobD) : Bool := j.busy && decide (j.op.kind = 3 ∧ (13 ≤ j.pc ∧ j.pc ≤ 15) ∧ j.e.tmod 2 = b)
def draining (w : WorldD) (b : Int) : Bool := w.jobs.any (drainJ b)
section
variable {α : Type}
theorem any_hit {p : α → Bool} {xs : List α} {i : Nat} (hi : i < xs.length) (hp : p xs[i] = true) : xs.any p = true := by
  rw [List.any_eq_true]; exact ⟨xs[i], List.getElem_mem hi, hp⟩
theorem any_none {p : α → Bool} {xs : List α} {i : Nat} (h : NoneTo p xs i) (hi : xs.length ≤ i) : xs.any p = false := by
  rw [List.any_eq_false]
  intro x hx
  obtain ⟨j, hj, rfl⟩ := List.mem_iff_getElem.1 hx
  simp [h j hj (by omega)]
end
end
section
/-! Worlds: are they right; in plain Lean. -/
open Go
set_option linter.unusedVariables false
def op0 : OpD := ⟨0, ⟨#[]⟩, 0, 0⟩
def job0 : JobD := ⟨false, op0, 0, 0, 0, 0, 0, 0, 0, 0, 0, 0, 0, [], []⟩
def jobAt (t : Nat) (j : JobD) : Bool := if j.busy = true then jobOk j && (decide (j.op.kind = 3) == decide ((t : Int) = 3)) else decide (j = job0)
def jobsAt (l : List JobD) (t : Nat) : Bool := match l[t]? with | some j => jobAt t j | none => true
def worldOk (w : WorldD) : Bool := cellsOk w.cells && todoOk w.todo && decide (0 ≤ w.serial ∧ w.serial ≤ 1000000) && decide (0 ≤ w.now ∧ w.now ≤ 1000000000) && decide ((w.jobs.length : Int) = 4) && (List.range w.jobs.length).all (jobsAt w.jobs)
theorem worldOk_iff {w : WorldD} : worldOk w = true ↔ cellsOk w.cells = true ∧ todoOk w.todo = true ∧ (0 ≤ w.serial ∧ w.serial ≤ 1000000) ∧ (0 ≤ w.now ∧ w.now ≤ 1000000000) ∧ w.jobs.length = 4 ∧ ∀ (t : Nat) (h : t < w.jobs.length), jobAt t w.jobs[t] = true := by
  unfold worldOk
  simp only [Bool.and_eq_true, decide_eq_true_eq, List.all_eq_true, List.mem_range]
  constructor
  · rintro ⟨⟨⟨⟨⟨h1, h2⟩, h3⟩, h4⟩, h5⟩, h6⟩
    refine ⟨h1, h2, h3, h4, by omega, fun t ht => ?_⟩
    have := h6 t ht
    simpa [jobsAt, List.getElem?_eq_getElem ht] using this
  · rintro ⟨h1, h2, h3, h4, h5, h6⟩
    refine ⟨⟨⟨⟨⟨h1, h2⟩, h3⟩, h4⟩, by omega⟩, fun t ht => ?_⟩
    simpa [jobsAt, List.getElem?_eq_getElem ht] using h6 t ht
theorem worldOk_bad {w : WorldD} {t : Nat} (ht : t < w.jobs.length) (h : jobAt t w.jobs[t] = false) : worldOk w = false := by
  cases hw : worldOk w with
  | false => rfl
  | true => have := (worldOk_iff.1 hw).2.2.2.2.2 t ht; rw [h] at this; cases this
theorem worldOk_pre {w : WorldD} (h : ¬ (cellsOk w.cells = true ∧ todoOk w.todo = true ∧ (0 ≤ w.serial ∧ w.serial ≤ 1000000) ∧ (0 ≤ w.now ∧ w.now ≤ 1000000000) ∧ w.jobs.length = 4)) : worldOk w = false := by
  cases hw : worldOk w with
  | false => rfl
  | true => have k := worldOk_iff.1 hw; exact absurd ⟨k.1, k.2.1, k.2.2.1, k.2.2.2.1, k.2.2.2.2.1⟩ h
end
end Go.Proofs.YtipfnhfcoolhaaaGreat.Aw
