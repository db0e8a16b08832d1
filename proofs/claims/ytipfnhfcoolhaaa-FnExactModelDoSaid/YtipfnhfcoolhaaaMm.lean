/- What an operation does to a model, in plain Lean. -/
import Derived.Test.YtipfnhfcoolhaaaMA
namespace Go.Proofs.Ytipfnhfcoolhaaa.Aw
open Go
set_option linter.unusedVariables false
set_option linter.unusedSimpArgs false
set_option maxHeartbeats 1000000
section
variable {α : Type} {kf : α → ByteArray}
theorem adj_sorted {l : List α} (h : ∀ i (hi : i + 1 < l.length), klt (kf l[i]) (kf l[i + 1])) : SortedK kf l := by
  refine List.pairwise_iff_getElem.2 ?_
  intro i j hi hj hij
  induction j with
  | zero => omega
  | succ j ih =>
    rcases Nat.lt_or_ge i j with h1 | h1
    · exact klt_trans (ih (by omega) h1) (h j hj)
    · obtain rfl : i = j := by omega
      exact h i hj
theorem SortedK.filter {l : List α} (h : SortedK kf l) (p : α → Bool) : SortedK kf (l.filter p) := List.Pairwise.filter p h
/-- All but the one of a key. -/
def butK (kf : α → ByteArray) (l : List α) (key : ByteArray) : List α := l.filter fun x => !decide (kf x = key)
theorem butK_has (l : List α) (key : ByteArray) : hasK kf (butK kf l key) key = false := by
  simp [hasK, butK]
theorem butK_none {l : List α} {key : ByteArray} (h : hasK kf l key = false) : butK kf l key = l := by
  simp only [hasK, List.any_eq_false, decide_eq_true_eq] at h
  rw [butK, List.filter_eq_self]
  intro x hx
  simp [h x hx]
theorem butK_at : ∀ {l : List α} {key : ByteArray} {i : Nat} (hs : SortedK kf l) (hi : i < l.length) (hk : kf l[i] = key), butK kf l key = l.take i ++ l.drop (i + 1)
  | x :: l, key, 0, hs, hi, hk => by
    unfold SortedK at hs
    rw [List.pairwise_cons] at hs
    simp only [List.getElem_cons_zero] at hk
    have h2 : hasK kf l key = false := by
      simp only [hasK, List.any_eq_false, decide_eq_true_eq]
      rintro y hy rfl
      exact klt_irrefl _ (hk ▸ hs.1 y hy)
    have := butK_none h2
    simp only [butK] at this ⊢
    simp [List.filter_cons, hk, this]
  | x :: l, key, i + 1, hs, hi, hk => by
    unfold SortedK at hs
    rw [List.pairwise_cons] at hs
    simp only [List.getElem_cons_succ] at hk
    have h2 : ¬ kf x = key := by
      rintro rfl
      have := hs.1 _ (List.getElem_mem (by simpa using hi : i < l.length))
      rw [hk] at this
      exact klt_irrefl _ this
    have := butK_at hs.2 (by simpa using hi) hk
    simp only [butK] at this ⊢
    simp [List.filter_cons, h2, this]
theorem hasK_iff {l : List α} {key : ByteArray} : hasK kf l key = true ↔ ∃ x ∈ l, kf x = key := by simp [hasK]
theorem nodup_le [DecidableEq α] : ∀ {l m : List α}, l.Nodup → (∀ x ∈ l, x ∈ m) → l.length ≤ m.length
  | [], m, _, _ => Nat.zero_le _
  | x :: l, m, hn, hs => by
    rw [List.nodup_cons] at hn
    have hx := hs x (List.mem_cons_self ..)
    have h1 := nodup_le (l := l) (m := m.erase x) hn.2 fun y hy => (List.mem_erase_of_ne (by rintro rfl; exact hn.1 hy)).2 (hs y (List.mem_cons_of_mem _ hy))
    rw [List.length_erase_of_mem hx] at h1
    have : 0 < m.length := List.length_pos_of_mem hx
    simp only [List.length_cons]
    omega
theorem SortedK.nodup {l : List α} (h : SortedK kf l) : (l.map kf).Nodup := by
  rw [List.nodup_iff_pairwise_ne]
  rw [List.pairwise_map]
  exact List.Pairwise.imp (fun {a b} (hab : klt (kf a) (kf b)) (hne : kf a = kf b) => klt_irrefl (kf b) (hne ▸ hab)) h
end
theorem keyLe_not {a b : ByteArray} (h : keyLe a b = false) : klt b a := by
  unfold keyLe at h
  simp only [Bool.or_eq_false_iff, decide_eq_false_iff_not] at h
  rcases klt_tri a b with h1 | h1 | h1
  · unfold klt at h1; rw [h1] at h; cases h.1
  · exact absurd h1 h.2
  · exact h1
theorem not_keyLe {a b : ByteArray} (h : klt b a) : keyLe a b = false := by
  unfold keyLe
  simp only [Bool.or_eq_false_iff, decide_eq_false_iff_not]
  refine ⟨?_, ?_⟩
  · have := klt_asymm h
    unfold klt at this
    simpa using this
  · rintro rfl; exact klt_irrefl _ h
theorem getD_in {α : Type} {l : List α} {i : Nat} (h : i < l.length) (d : α) : l.getD i d = l[i] := by
  rw [List.getD_eq_getElem?_getD, List.getElem?_eq_getElem h]; rfl
theorem reportOk_iff {l : List RowD} : reportOk l = true ↔ SortedK RowD.key l ∧ l.length ≤ 4 ∧ ∀ r ∈ l, rowP r ∧ quiet r = false := by
  unfold reportOk
  rw [Bool.and_eq_true, List.all_eq_true, decide_eq_true_eq]
  constructor
  · rintro ⟨h, h4⟩
    refine ⟨adj_sorted fun i hi => ?_, by omega, fun r hr => ?_⟩
    · have := h (i + 1) (List.mem_range.2 hi)
      simp only [repAt, Bool.and_eq_true, Bool.or_eq_true, decide_eq_true_eq, Nat.add_sub_cancel, Bool.not_eq_true'] at this
      rw [getD_in hi, getD_in (by omega)] at this
      exact keyLe_not (this.2.resolve_left (by omega))
    · obtain ⟨i, hi, rfl⟩ := List.mem_iff_getElem.1 hr
      have := h i (List.mem_range.2 hi)
      simp only [repAt, Bool.and_eq_true, getD_in hi, Bool.not_eq_true'] at this
      exact ⟨of_decide_eq_true this.1.1, this.1.2⟩
  · rintro ⟨hs, h4, h⟩
    refine ⟨fun i hi => ?_, by omega⟩
    have hi := List.mem_range.1 hi
    have h1 := h _ (List.getElem_mem hi)
    simp only [repAt, Bool.and_eq_true, Bool.or_eq_true, decide_eq_true_eq, Bool.not_eq_true', getD_in hi]
    refine ⟨⟨decide_eq_true h1.1, h1.2⟩, ?_⟩
    cases i with
    | zero => exact .inl rfl
    | succ i =>
      refine .inr ?_
      rw [Nat.add_sub_cancel, getD_in (by omega)]
      exact not_keyLe (List.pairwise_iff_getElem.1 hs i (i + 1) (by omega) hi (by omega))
theorem tagged_ne {key : ByteArray} {kind : Int} (h : ¬ tagged key kind = 0) : keyOk key = true ∧ 1 ≤ kind ∧ kind ≤ 3 := by
  unfold tagged at h
  split at h
  · assumption
  · exact absurd rfl h
theorem tagged_pos {key : ByteArray} {kind : Int} (h : keyOk key = true ∧ 1 ≤ kind ∧ kind ≤ 3) : ¬ tagged key kind = 0 := by
  have := packKey_bd key
  unfold tagged
  rw [if_pos h]
  omega
theorem modelOk_iff {m : ModelD} : modelOk m = true ↔ (SortedK KRowD.key m.keys ∧ m.keys.length ≤ 4 ∧ ∀ k ∈ m.keys, keyOk k.key = true ∧ 1 ≤ k.kind ∧ k.kind ≤ 3) ∧ (∀ r ∈ m.rows, modelKind m r.key = r.kind) ∧ reportOk m.rows = true := by
  unfold modelOk
  simp only [Bool.and_eq_true, List.all_eq_true, decide_eq_true_eq]
  constructor
  · rintro ⟨⟨⟨h1, h2⟩, h3⟩, h4⟩
    refine ⟨⟨adj_sorted fun i hi => ?_, by omega, fun r hr => ?_⟩, h2, h4⟩
    · have := h1 (i + 1) (List.mem_range.2 hi)
      simp only [keyAt, Bool.and_eq_true, Bool.or_eq_true, decide_eq_true_eq, Nat.add_sub_cancel, Bool.not_eq_true'] at this
      rw [getD_in hi, getD_in (by omega)] at this
      exact keyLe_not (this.2.resolve_left (by omega))
    · obtain ⟨i, hi, rfl⟩ := List.mem_iff_getElem.1 hr
      have := h1 i (List.mem_range.2 hi)
      simp only [keyAt, Bool.and_eq_true, getD_in hi, Bool.not_eq_true', decide_eq_false_iff_not] at this
      exact tagged_ne this.1
  · rintro ⟨⟨hs, h3, h1⟩, h2, h4⟩
    refine ⟨⟨⟨fun i hi => ?_, h2⟩, by omega⟩, h4⟩
    have hi := List.mem_range.1 hi
    have h5 := h1 _ (List.getElem_mem hi)
    simp only [keyAt, Bool.and_eq_true, Bool.or_eq_true, decide_eq_true_eq, Bool.not_eq_true', getD_in hi, decide_eq_false_iff_not]
    refine ⟨tagged_pos h5, ?_⟩
    cases i with
    | zero => exact .inl rfl
    | succ i =>
      refine .inr ?_
      rw [Nat.add_sub_cancel, getD_in (by omega)]
      exact not_keyLe (List.pairwise_iff_getElem.1 hs i (i + 1) (by omega) hi (by omega))
theorem modelKind_mem {m : ModelD} {key : ByteArray} (h : ¬ modelKind m key = 0) : ∃ k ∈ m.keys, k.key = key ∧ k.kind = modelKind m key := by
  unfold modelKind at h ⊢
  cases hf : m.keys.find? (fun k => decide (k.key = key)) with
  | none => rw [hf] at h; exact absurd rfl h
  | some k => exact ⟨k, List.mem_of_find?_eq_some hf, by simpa using List.find?_some hf, rfl⟩
theorem modelKind_rg {m : ModelD} (hm : modelOk m = true) (key : ByteArray) : 0 ≤ modelKind m key ∧ modelKind m key ≤ 3 := by
  by_cases h : modelKind m key = 0
  · omega
  · obtain ⟨k, hk, h1, h2⟩ := modelKind_mem h
    have := (modelOk_iff.1 hm).1.2.2 k hk
    omega
/-- A row with one value more. -/
def recRow (r : RowD) (v : Int) : RowD := if r.kind = 1 then counted r v else if r.kind = 2 then { r with set := true, last := v } else sampled r v
def recCode (r : RowD) : Int := if r.kind = 1 ∨ r.kind = 2 then 0 else if r.n = 3 then 5 else 0
/-- Rows with one row anew. -/
def rowAnew (l : List RowD) (r : RowD) : List RowD := addRow (butK RowD.key l r.key) r
def modelDo (m : ModelD) (o : OpD) : ModelD × Int × List RowD :=
  if ¬ (modelOk m = true ∧ opOk o = true) then (m, 1, [])
  else if o.kind = 3 then (⟨m.keys, []⟩, 0, m.rows)
  else if o.kind = 2 then
    (if modelKind m o.key = 0 then (m, 2, []) else (⟨m.keys, rowAnew m.rows (recRow (modelRow m o.key) o.val)⟩, recCode (modelRow m o.key), []))
  else if modelKind m o.key = o.what then (m, 0, [])
  else if ¬ modelKind m o.key = 0 then (m, 4, [])
  else if (m.keys.length : Int) = 4 then (m, 3, [])
  else (⟨insK KRowD.key m.keys ⟨o.key, o.what⟩, m.rows⟩, 0, [])
theorem modelRow_ok {m : ModelD} {key : ByteArray} (hm : modelOk m = true) (hk : ¬ modelKind m key = 0) : (modelRow m key).key = key ∧ (modelRow m key).kind = modelKind m key ∧ rowP (modelRow m key) := by
  unfold modelRow
  obtain ⟨h1, h2, h3⟩ := modelOk_iff.1 hm
  cases hf : m.rows.find? (fun r => decide (r.key = key)) with
  | some r =>
    have h4 := List.mem_of_find?_eq_some hf
    have h5 : r.key = key := by simpa using List.find?_some hf
    refine ⟨h5, ?_, ((reportOk_iff.1 h3).2.2 r h4).1⟩
    rw [← h2 r h4, h5]
  | none =>
    simp only [if_neg hk]
    refine ⟨trivial, trivial, ?_⟩
    obtain ⟨k, hk1, hk2, hk3⟩ := modelKind_mem hk
    have h5 := h1.2.2 k hk1
    rw [hk3, hk2] at h5
    unfold rowP
    refine ⟨h5.1, ?_⟩
    simp only [row0]
    rcases (by omega : modelKind m key = 1 ∨ modelKind m key = 2 ∨ modelKind m key = 3) with h | h | h <;> rw [h] <;> simp [wordP, timerP]
theorem modelRow_zero {m : ModelD} {key : ByteArray} (hm : modelOk m = true) (hk : modelKind m key = 0) : modelRow m key = row0 := by
  unfold modelRow
  obtain ⟨h1, h2, h3⟩ := modelOk_iff.1 hm
  cases hf : m.rows.find? (fun r => decide (r.key = key)) with
  | some r =>
    exfalso
    have h4 := List.mem_of_find?_eq_some hf
    have h5 : r.key = key := by simpa using List.find?_some hf
    have h6 := h2 r h4
    have h7 := ((reportOk_iff.1 h3).2.2 r h4).1
    rw [h5, hk] at h6
    unfold rowP at h7
    rw [← h6] at h7
    simp at h7
  | none => simp [hk]
theorem counted_kind (r : RowD) (v : Int) : (counted r v).key = r.key ∧ (counted r v).kind = r.kind := by unfold counted; split <;> simp
theorem sampled_kind (r : RowD) (v : Int) : (sampled r v).key = r.key ∧ (sampled r v).kind = r.kind := by unfold sampled; split <;> (try split) <;> simp
theorem recRow_kind (r : RowD) (v : Int) : (recRow r v).key = r.key ∧ (recRow r v).kind = r.kind := by
  unfold recRow
  split
  · exact counted_kind r v
  · split
    · exact ⟨rfl, rfl⟩
    · exact sampled_kind r v
theorem counted_P {r : RowD} {v : Int} (h : rowP r) : rowP (counted r v) := by
  unfold counted
  split
  · rename_i hk
    obtain ⟨h0, h⟩ := h
    rw [if_pos hk.2.1] at h
    refine ⟨h0, ?_⟩
    simp only [hk.2.1, if_true]
    refine ⟨?_, h.2⟩
    unfold wordP; omega
  · exact h
theorem mul_n {x n : Int} (hn : n = 1 ∨ n = 2 ∨ n = 3) : x * n = if n = 1 then x else if n = 2 then x + x else x + x + x := by
  rcases hn with rfl | rfl | rfl
  · simp
  · simp; omega
  · simp; omega
theorem sampled_P {r : RowD} {v : Int} (h : rowP r) : rowP (sampled r v) := by
  unfold sampled
  split
  · rename_i hk
    obtain ⟨h0, h⟩ := h
    have hk3 := hk.2.1
    rw [hk3] at h
    simp only [Int.reduceEq, if_false, if_true] at h
    obtain ⟨h1, h2, h3, h4⟩ := h
    unfold timerP at h4
    split
    · rename_i hn
      rw [if_neg (by omega)] at h4
      obtain ⟨q1, q2, q3, q4, q5, q6⟩ := h4
      refine ⟨h0, ?_⟩
      simp only [hk3, Int.reduceEq, if_false, if_true]
      refine ⟨h1, h2, h3, ?_⟩
      unfold timerP
      simp only [hn, Int.reduceEq, if_false]
      rw [hn] at q4
      refine ⟨by omega, q2, q3, q4, ?_, .inr trivial⟩
      split <;> omega
    · rename_i hn
      refine ⟨h0, ?_⟩
      simp only [hk3, Int.reduceEq, if_false, if_true]
      refine ⟨h1, h2, h3, ?_⟩
      unfold timerP
      by_cases hz : r.n = 0
      · rw [if_pos hz] at h4
        simp only [hz, if_true]
        obtain ⟨q1, q2, q3, q4⟩ := h4
        rw [if_neg (by omega)]
        exact ⟨by omega, by omega, by omega, by omega, by omega, .inl q4⟩
      · rw [if_neg hz] at h4
        simp only [if_neg hz]
        obtain ⟨q1, q2, q3, q4, q5, q6⟩ := h4
        rw [if_neg (by omega)]
        have hd : r.dropped = 0 := q6.resolve_right hn
        have e : r.n = 1 ∨ r.n = 2 := by omega
        refine ⟨by omega, by split <;> split <;> omega, by split <;> omega, ?_, by omega, .inl hd⟩
        rw [mul_n (by omega), mul_n (by omega)] at q4
        rw [mul_n (by omega), mul_n (by omega)]
        rcases e with e | e <;> rw [e] at q4 ⊢ <;> simp only [Int.reduceAdd, Int.reduceEq, if_true, if_false] at q4 ⊢ <;> split <;> split <;> omega
  · exact h
theorem gauge_P {r : RowD} {v : Int} (h : rowP r) (hk : r.kind = 2) (hv : 0 ≤ v ∧ v ≤ 65535) : rowP { r with set := true, last := v } := by
  obtain ⟨h0, h⟩ := h
  rw [hk] at h
  simp only [Int.reduceEq, if_false, if_true] at h
  refine ⟨h0, ?_⟩
  simp only [hk, Int.reduceEq, if_false, if_true]
  exact ⟨h.1, hv, .inl trivial, h.2.2.2⟩
theorem recRow_P {r : RowD} {v : Int} (h : rowP r) (hv : 0 ≤ v ∧ v ≤ 65535) : rowP (recRow r v) := by
  unfold recRow
  split
  · exact counted_P h
  · split
    · exact gauge_P h (by assumption) hv
    · exact sampled_P h
theorem addRow_mem {l : List RowD} {r x : RowD} (h : x ∈ addRow l r) : x ∈ l ∨ (x = r ∧ quiet r = false) := by
  unfold addRow at h
  split at h
  · exact .inl h
  · rename_i hn
    unfold putK at h
    split at h
    · exact .inl h
    · rcases mem_insK.1 h with h | h
      · exact .inr ⟨h, by simpa using fun k => hn (.inr k)⟩
      · exact .inl h
theorem modelKind_congr {m m' : ModelD} (h : m'.keys = m.keys) (key : ByteArray) : modelKind m' key = modelKind m key := by unfold modelKind; rw [h]
theorem find_ins {l : List KRowD} {k : KRowD} {key : ByteArray} (h : ¬ k.key = key) : (insK KRowD.key l k).find? (fun x => decide (x.key = key)) = l.find? (fun x => decide (x.key = key)) := by
  induction l with
  | nil => simp [insK, h]
  | cons x l ih =>
    simp only [insK]
    split
    · simp [List.find?_cons, h]
    · simp only [List.find?_cons]
      split
      · rfl
      · exact ih
theorem find_ins_self {l : List KRowD} {k : KRowD} (h : l.find? (fun x => decide (x.key = k.key)) = none) : (insK KRowD.key l k).find? (fun x => decide (x.key = k.key)) = some k := by
  induction l with
  | nil => simp [insK]
  | cons x l ih =>
    simp only [List.find?_cons] at h
    split at h
    · cases h
    · rename_i hx
      simp only [insK]
      split
      · simp [List.find?_cons]
      · simp only [List.find?_cons, hx]
        exact ih h
theorem modelKind_none {m : ModelD} {key : ByteArray} (hm : modelOk m = true) (h : modelKind m key = 0) : m.keys.find? (fun k => decide (k.key = key)) = none := by
  unfold modelKind at h
  cases hf : m.keys.find? (fun k => decide (k.key = key)) with
  | none => rfl
  | some k =>
    rw [hf] at h
    have := (modelOk_iff.1 hm).1.2.2 k (List.mem_of_find?_eq_some hf)
    simp only at h
    omega
/-- The rows' keys are among the model's keys: so there are four at most. -/
theorem rows_le {m : ModelD} (hs : SortedK RowD.key m.rows) (h : ∀ r ∈ m.rows, ¬ modelKind m r.key = 0) : m.rows.length ≤ m.keys.length := by
  have h1 := nodup_le (l := m.rows.map RowD.key) (m := m.keys.map KRowD.key) hs.nodup fun x hx => by
    obtain ⟨r, hr, rfl⟩ := List.mem_map.1 hx
    obtain ⟨k, hk, e, _⟩ := modelKind_mem (h r hr)
    exact List.mem_map.2 ⟨k, hk, e⟩
  simpa using h1
theorem modelDo_ok {m : ModelD} {o : OpD} (hm : modelOk m = true) (ho : opOk o = true) : modelOk (modelDo m o).1 = true := by
  unfold modelDo
  rw [if_neg (fun h => h ⟨hm, ho⟩)]
  obtain ⟨h1, h2, h3⟩ := modelOk_iff.1 hm
  obtain ⟨r1, r2, r3⟩ := reportOk_iff.1 h3
  split
  · exact modelOk_iff.2 ⟨h1, (fun (r : RowD) (hr : r ∈ ([] : List RowD)) => nomatch hr), rfl⟩
  split
  · split
    · exact hm
    · rename_i hk hz
      obtain ⟨e1, e2, e3⟩ := modelRow_ok hm hz
      have hv : 0 ≤ o.val ∧ o.val ≤ 65535 := by
        unfold opOk at ho
        rw [if_neg (by omega), if_pos hk] at ho
        simp only [Bool.and_eq_true, decide_eq_true_eq] at ho
        exact ho.2
      obtain ⟨c1, c2⟩ := recRow_kind (modelRow m o.key) o.val
      have hP := recRow_P e3 hv
      generalize hr : recRow (modelRow m o.key) o.val = r at *
      have hmem : ∀ x ∈ rowAnew m.rows r, modelKind m x.key = x.kind ∧ rowP x ∧ quiet x = false := by
        intro x hx
        rcases addRow_mem hx with hx | ⟨rfl, hq⟩
        · have hx := (List.mem_filter.1 hx).1
          exact ⟨h2 x hx, r3 x hx⟩
        · refine ⟨?_, hP, hq⟩
          rw [c1, e1, c2, e2]
      have hsr : SortedK RowD.key (rowAnew m.rows r) := addRow_sorted (r1.filter _)
      have hmk : ∀ key, modelKind ⟨m.keys, rowAnew m.rows r⟩ key = modelKind m key := fun _ => rfl
      have hlen : (rowAnew m.rows r).length ≤ m.keys.length := rows_le (m := ⟨m.keys, rowAnew m.rows r⟩) hsr fun x hx => by
        have := hmem x hx
        have h5 := this.2.1.2
        intro h0
        rw [hmk, this.1] at h0
        rw [h0] at h5
        simp at h5
      exact modelOk_iff.2 ⟨h1, fun x hx => (hmk x.key).trans (hmem x hx).1, reportOk_iff.2 ⟨hsr, Nat.le_trans hlen h1.2.1, fun x hx => (hmem x hx).2⟩⟩
  split
  · exact hm
  split
  · exact hm
  split
  · exact hm
  · rename_i k3 k2 kw k0 k4
    have k0 : modelKind m o.key = 0 := Classical.byContradiction k0
    have hk : keyOk o.key = true ∧ 1 ≤ o.what ∧ o.what ≤ 3 := by
      unfold opOk at ho
      split at ho
      · simp only [Bool.and_eq_true, decide_eq_true_eq] at ho
        exact ho.1
      · simp [k2, k3] at ho
    have hf := modelKind_none hm k0
    have hn : hasK KRowD.key m.keys o.key = false := by
      simp only [hasK, List.any_eq_false]
      exact List.find?_eq_none.1 hf
    have hkind : ∀ r ∈ m.rows, modelKind ⟨insK KRowD.key m.keys ⟨o.key, o.what⟩, m.rows⟩ r.key = r.kind := by
      intro r hr
      have h5 := h2 r hr
      have hne : ¬ o.key = r.key := by
        intro e
        rw [← e, k0] at h5
        have h6 := (r3 r hr).1.2
        rw [← h5] at h6
        simp at h6
      rw [← h5]
      unfold modelKind
      simp only
      rw [find_ins (by simpa using hne)]
    refine modelOk_iff.2 ⟨⟨h1.1.ins hn, ?_, fun x hx => ?_⟩, hkind, h3⟩
    · simp only [insK_length]; omega
    · rcases mem_insK.1 hx with rfl | hx
      · exact hk
      · exact h1.2.2 x hx
/-- Models whose texts and numbers fit. -/
theorem modelDo_kind {m : ModelD} {o : OpD} (hm : modelOk m = true) {key : ByteArray} (h : ¬ modelKind m key = 0) : modelKind (modelDo m o).1 key = modelKind m key := by
  unfold modelDo
  split
  · rfl
  split
  · rfl
  split
  · split <;> rfl
  split
  · rfl
  split
  · rfl
  split
  · rfl
  · rename_i k0 k4
    have k0 : modelKind m o.key = 0 := Classical.byContradiction k0
    unfold modelKind
    simp only
    rw [find_ins (by simp only; rintro rfl; exact h k0)]
end Go.Proofs.Ytipfnhfcoolhaaa.Aw
