/- The calculus 'Aw' at work, part 5: fresh memory. -/
import Derived.Test.YthcjolappblieaaAx4
namespace Go.Proofs.Ythcjolappblieaa.Aw
open Go Go.RowKit
set_option linter.unusedVariables false
set_option linter.unusedSimpArgs false
set_option linter.unusedSectionVars false
variable {P : Program} {W0 : World}
/-- The blocks from n on alone. -/
def AH.above (H : AH) (n : Nat) : AH := ⟨fun b => if b < n then none else H.blk b, H.nxt⟩
theorem above_set {H : AH} {b n : Nat} (h : b < n) (B : Blk) : (H.set b B).above n = H.above n := by
  simp only [AH.above, AH.set, AH.mk.injEq, and_true]
  funext x
  by_cases hx : x < n
  · simp [hx]
  · have : x ≠ b := by omega
    simp [hx, this]
theorem above_sub {H H' : AH} (h : Sub H H') (n : Nat) : Sub (H.above n) (H'.above n) := by
  refine ⟨h.1, fun b B hB => ?_⟩
  simp only [AH.above] at hB ⊢
  split at hB
  · cases hB
  · rename_i hb; rw [if_neg hb]; exact h.2 b B hB
theorem above_le (H : AH) {m n : Nat} (h : m ≤ n) : Sub (H.above n) (H.above m) := by
  refine ⟨Nat.le_refl _, fun b B hB => ?_⟩
  simp only [AH.above] at hB ⊢
  split at hB
  · cases hB
  · rw [if_neg (by omega)]; exact hB
theorem above_all (H : AH) (n : Nat) : Sub (H.above n) H := by
  refine ⟨Nat.le_refl _, fun b B hB => ?_⟩
  simp only [AH.above] at hB
  split at hB
  · cases hB
  · exact hB
theorem above_blk {H : AH} {n b : Nat} (h : n ≤ b) : (H.above n).blk b = H.blk b := by
  simp only [AH.above]; rw [if_neg (by omega)]
theorem Ob.fresh {α : Type} [Ob α] {H : AH} {n : Nat} {cs : List AV} {x : α} (h : Ob.rep W0 (H.above n) cs x) : Ob.rep W0 H cs x := Ob.sub (above_all _ _) h
theorem zeros_len (z : List Value) (n s : Nat) (h : z.length = s) : (zerosA z n).length = n * s := by rw [zerosA_length, h]
/-- A fresh slice under way: its first i elements are laid. -/
structure Laying {α : Type} [Ob α] (W0 : World) (H : AH) (H' : AH) (n i : Nat) (xs : List α) : Prop where
  sub : Sub H H'
  lt : H.nxt < H'.nxt
  blk : ∃ cs, H'.blk H.nxt = some ⟨cs, Ob.n α⟩ ∧ cs.length = n * Ob.n α ∧ Reps W0 (H'.above (H.nxt + 1)) (cs.take (i * Ob.n α)) (xs.take i)
theorem AH.wf.new {H : AH} (h : H.wf) (cs : List AV) (s : Nat) : (H.new cs s).wf := by
  intro b hb
  rw [nxt_new] at hb
  rw [blk_new, if_neg (by omega)]
  exact h b (by omega)
theorem AH.wf.set {H : AH} (h : H.wf) {b : Nat} (hb : b < H.nxt) (B : Blk) : (H.set b B).wf := by
  intro x hx
  rw [nxt_set] at hx
  rw [blk_set, if_neg (by omega)]
  exact h x hx
theorem AH.wf.kill {H : AH} (h : H.wf) (b : Nat) : (H.kill b).wf := by
  intro x hx
  rw [nxt_kill] at hx
  rw [blk_kill]
  split
  · rfl
  · exact h x hx
theorem Laying.start {α : Type} [Ob α] {H : AH} (hw : H.wf) {z : List Value} {n s : Nat} {xs : List α} (hz : z.length = s) (hs : s = Ob.n α) : Laying W0 H (H.new (zerosA z n) s) n 0 xs := by
  subst hs
  refine ⟨(Sub.refl H).new hw _ _, by rw [nxt_new]; omega, zerosA z n, blk_new_self _ _ _, zeros_len _ _ _ hz, ?_⟩
  simp
  exact .nil
theorem Laying.more {α : Type} [Ob α] {H H' H'' : AH} {n i : Nat} {xs : List α} (h : Laying W0 H H' n i xs) (hs : Sub H' H'') : Laying W0 H H'' n i xs := by
  obtain ⟨h1, h2, cs, h4, h5, h6⟩ := h
  exact ⟨h1.trans hs, Nat.lt_of_lt_of_le h2 hs.1, cs, hs.2 _ _ h4, h5, h6.sub (above_sub hs _)⟩
theorem Laying.put {α : Type} [Ob α] {H H' : AH} {n i : Nat} {xs : List α} (hw : H.wf) (h : Laying W0 H H' n i xs) (hi : i < n) (hx : i < xs.length) {c : List AV} (hc : Ob.rep W0 (H'.above (H.nxt + 1)) c xs[i]) {B : Blk} (hB : H'.blk H.nxt = some B) :
    Laying W0 H (H'.set H.nxt ⟨wr B.cells (i * Ob.n α) c, B.esz⟩) n (i + 1) xs := by
  obtain ⟨h1, h2, cs, h4, h5, h6⟩ := h
  rw [hB] at h4
  injection h4 with h4
  subst h4
  have hle : (i + 1) * Ob.n α ≤ n * Ob.n α := Nat.mul_le_mul_right _ hi
  rw [Nat.add_mul, Nat.one_mul] at hle
  have hl := Ob.len hc
  refine ⟨h1.set hw (Nat.le_refl _) _, h2, wr cs (i * Ob.n α) c, by rw [blk_set, if_pos rfl], ?_, ?_⟩
  · simp only [wr, List.length_append, List.length_take, List.length_drop]; omega
  · rw [above_set (Nat.lt_succ_self _)]
    have : (wr cs (i * Ob.n α) c).take ((i + 1) * Ob.n α) = cs.take (i * Ob.n α) ++ c := by
      rw [wr, List.take_append_of_le_length (by simp; rw [Nat.add_mul]; omega), List.take_of_length_le]
      simp; rw [Nat.add_mul]; omega
    rw [this, List.take_succ_eq_append_getElem hx]
    have := Reps.append h6 (Reps.cons hc .nil)
    rwa [List.append_nil] at this
theorem Laying.done {α : Type} [Ob α] {H H' : AH} {xs : List α} (h : Laying W0 H H' xs.length xs.length xs) (hb : xs.length ≤ big) : SlR W0 (H'.above H.nxt) (.sl H.nxt 0 xs.length) xs := by
  obtain ⟨h1, h2, cs, h4, h5, h6⟩ := h
  refine ⟨rfl, hb, cs, ?_, ?_⟩
  · simp only [slCells, Nat.le_refl, if_true, above_blk (Nat.le_refl _), h4, Option.bind_some, Nat.zero_add, true_and, h5, List.drop_zero]
    rw [List.take_of_length_le (by omega)]
  · rw [List.take_of_length_le (by omega), List.take_of_length_le (Nat.le_refl _)] at h6
    exact h6.sub (above_le _ (by omega))
/-- What is left of a budget. -/
def szLeft (left : Int) (n : Nat) : Int := if (n : Int) ≤ left then left - n else -1
theorem szLeft_add {left : Int} {m n : Nat} (h : 0 ≤ szLeft left m) : szLeft (szLeft left m) n = szLeft left (m + n) := by
  unfold szLeft at h ⊢
  split at h
  · rename_i h1; rw [if_pos h1]; by_cases h2 : (n : Int) ≤ left - m
    · rw [if_pos h2, if_pos (by omega)]; omega
    · rw [if_neg h2, if_neg (by omega)]
  · omega
theorem szLeft_neg {left : Int} {m n : Nat} (h : szLeft left m < 0) (hl : 0 ≤ left) : szLeft left (m + n) = -1 := by
  unfold szLeft at h ⊢
  split at h
  · omega
  · rw [if_neg (by omega)]
theorem szLeft_le {left : Int} {m : Nat} (hl : 0 ≤ left) : szLeft left m ≤ left := by unfold szLeft; split <;> omega
theorem szLeft_nonneg {left : Int} {m : Nat} (h : 0 ≤ szLeft left m) : (m : Int) ≤ left := by unfold szLeft at h; split at h <;> omega
theorem szLeft_lt {l : Int} {n : Nat} (h0 : 0 ≤ l) (h : szLeft l n < 0) : l < n := by unfold szLeft at h; split at h <;> omega
theorem szLeft_ge {l : Int} {n : Nat} (h0 : 0 ≤ l) (h : ¬ szLeft l n < 0) : szLeft l n = l - n ∧ 0 ≤ l - n := by
  unfold szLeft at *; split at h
  · rename_i h1; rw [if_pos h1]; omega
  · omega
theorem Sub.blk_eq {H H' : AH} (h : Sub H H') {b : Nat} (hb : (H.blk b).isSome = true) : H'.blk b = H.blk b := by
  obtain ⟨B, hB⟩ := Option.isSome_iff_exists.1 hb
  rw [h.2 b B hB, hB]
theorem Keep.set {H H' : AH} {b n : Nat} (h : Sub (H.above n) (H'.above n)) (hb : b < n) (B : Blk) : Sub (H.above n) ((H'.set b B).above n) := by rw [above_set hb]; exact h
theorem Keep.sub {H H' H'' : AH} {n : Nat} (h : Sub (H.above n) (H'.above n)) (hs : Sub H' H'') : Sub (H.above n) (H''.above n) := h.trans (above_sub hs n)
theorem sum_take_le {α : Type} (f : α → Nat) (xs : List α) (i : Nat) : ((xs.take i).map f).sum ≤ (xs.map f).sum := by
  induction xs generalizing i with
  | nil => simp
  | cons x xs ih =>
    cases i with
    | zero => simp
    | succ i => simp only [List.take_succ_cons, List.map_cons, List.sum_cons]; have := ih i; omega
theorem mem_le_sum (l : List Nat) (n : Nat) (h : n ∈ l) : n ≤ l.sum := by
  induction l with
  | nil => cases h
  | cons x l ih =>
    rcases List.mem_cons.1 h with rfl | h
    · simp only [List.sum_cons]; omega
    · have := ih h; simp only [List.sum_cons]; omega
theorem sz_get_le {α : Type} [Ob α] (xs : List α) (i : Nat) (hi : i < xs.length) : Ob.sz xs[i] ≤ Ob.sz xs := by
  show Ob.sz xs[i] ≤ xs.length + (xs.map Ob.sz).sum
  have : Ob.sz xs[i] ≤ (xs.map Ob.sz).sum := mem_le_sum _ _ (List.mem_map_of_mem (List.getElem_mem hi))
  omega
theorem keep_trans {H Hf : AH} {m n : Nat} (h : Sub (H.above n) (Hf.above n)) (hm : m ≤ n) : Sub (H.above n) (Hf.above m) := h.trans (above_le Hf hm)
end Go.Proofs.Ythcjolappblieaa.Aw
