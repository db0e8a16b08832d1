/- The calculus 'Aw' at work, part 12: elements of slices that are owned, one by one; what is new; marks. -/
import Derived.Test.YthcjolappblieaaOc
import Derived.Test.YthcjolappblieaaDa
namespace Go.Proofs.Ythcjolappblieaa.Aw
open Go Go.RowKit
set_option linter.unusedVariables false
set_option linter.unusedSimpArgs false
set_option linter.unusedSectionVars false
variable {P : Program} {W0 : World}
theorem take_app {A B : List AV} {p m : Nat} (h : A.length = p) : (A ++ B).take (p + m) = A ++ B.take m := by subst h; exact List.take_length_add_append ..
section
variable {α : Type} [Ob α] [Own α]
/-- One element of a slice that owns its block, by itself. -/
theorem OwnS.get {H : AH} {S : List Nat} {v : AV} {ys : List α} (h : OwnS H S v ys) (i : Nat) (hi : i < ys.length) :
    ∃ b o pre mid post S1 S2 S3, v = .sl b o ys.length ∧ H.blk b = some ⟨pre ++ (mid ++ post), Ob.n α⟩ ∧ pre.length = o + i * Ob.n α ∧ mid.length = Ob.n α ∧ S = b :: (S1 ++ (S2 ++ S3)) ∧ Own.own H S2 mid ys[i] ∧
      ∀ (H' : AH) (S2' : List Nat) (mid' : List AV) (y' : α), H'.blk b = some ⟨pre ++ (mid' ++ post), Ob.n α⟩ → (∀ x ∈ S1 ++ S3, H'.blk x = H.blk x) → Own.own H' S2' mid' y' → OwnS H' (b :: (S1 ++ (S2' ++ S3))) v (ys.set i y') := by
  rcases h with ⟨-, rfl, rfl⟩ | ⟨b, o, cs, T, rfl, hB, ho, hb, rfl, hO⟩
  · simp at hi
  obtain ⟨S1, S2, S3, rfl, h1, h2, h3⟩ := hO.get i hi
  have hle : (i + 1) * Ob.n α ≤ ys.length * Ob.n α := Nat.mul_le_mul_right _ hi
  rw [Nat.add_mul, Nat.one_mul] at hle
  have hcut : cs = cs.take (o + i * Ob.n α) ++ ((cs.drop (o + i * Ob.n α)).take (Ob.n α) ++ cs.drop (o + (i + 1) * Ob.n α)) := by
    have e1 : cs.drop (o + (i + 1) * Ob.n α) = (cs.drop (o + i * Ob.n α)).drop (Ob.n α) := by rw [List.drop_drop]; congr 1; rw [Nat.add_mul]; omega
    rw [e1, List.take_append_drop, List.take_append_drop]
  have e2 : (((cs.drop o).take (ys.length * Ob.n α)).drop (i * Ob.n α)).take (Ob.n α) = (cs.drop (o + i * Ob.n α)).take (Ob.n α) := by
    rw [List.drop_take, List.take_take, List.drop_drop]; congr 1; omega
  have e3 : ((cs.drop o).take (ys.length * Ob.n α)).take (i * Ob.n α) = (cs.drop o).take (i * Ob.n α) := by rw [List.take_take]; congr 1; omega
  have e4 : ((cs.drop o).take (ys.length * Ob.n α)).drop ((i + 1) * Ob.n α) = (cs.drop (o + (i + 1) * Ob.n α)).take ((ys.length - (i + 1)) * Ob.n α) := by
    rw [List.drop_take, List.drop_drop, Nat.sub_mul]
  rw [e2] at h2
  rw [e3] at h1
  rw [e4] at h3
  have hm : ((cs.drop (o + i * Ob.n α)).take (Ob.n α)).length = Ob.n α := by simp; omega
  have hp : (cs.take (o + i * Ob.n α)).length = o + i * Ob.n α := by simp; omega
  refine ⟨b, o, _, _, _, S1, S2, S3, rfl, by rw [hB]; congr 2, hp, hm, rfl, h2, fun H' S2' mid' y' hB' hk hown => ?_⟩
  have hml : mid'.length = Ob.n α := Ob.len (Own.rep (W0 := default) hown)
  refine .inr ⟨b, o, _, S1 ++ (S2' ++ S3), by rw [List.length_set], hB', ?_, by rw [List.length_set]; exact hb, rfl, ?_⟩
  · rw [List.length_set]; simp only [List.length_append, hp, hml, List.length_drop, Nat.add_mul, Nat.one_mul]; omega
  · have hset : ys.set i y' = ys.take i ++ ([y'] ++ ys.drop (i + 1)) := by rw [List.set_eq_take_append_cons_drop, if_pos hi]; rfl
    have hcells : ((cs.take (o + i * Ob.n α) ++ (mid' ++ cs.drop (o + (i + 1) * Ob.n α))).drop o).take ((ys.set i y').length * Ob.n α) = (cs.drop o).take (i * Ob.n α) ++ (mid' ++ (cs.drop (o + (i + 1) * Ob.n α)).take ((ys.length - (i + 1)) * Ob.n α)) := by
      rw [List.length_set, List.drop_append_of_le_length (by omega), List.drop_take]
      rw [show o + i * Ob.n α - o = i * Ob.n α by omega]
      have hl1 : ((cs.drop o).take (i * Ob.n α)).length = i * Ob.n α := by simp; omega
      rw [show ys.length * Ob.n α = i * Ob.n α + (Ob.n α + (ys.length - (i + 1)) * Ob.n α) by rw [Nat.sub_mul, Nat.add_mul]; omega]
      rw [take_app hl1, take_app hml]
    rw [hset] at hcells ⊢
    rw [hcells]
    exact (h1.eq fun x hx => hk x (List.mem_append_left _ hx)).append ((Owns.one hown).append (h3.eq fun x hx => hk x (List.mem_append_right _ hx)))
end
/-! ### Blocks, other than some, are as they were -/
def Chg (S : List Nat) (H H' : AH) : Prop := H'.nxt = H.nxt ∧ ∀ b, b ∉ S → H'.blk b = H.blk b
theorem Chg.refl (S : List Nat) (H : AH) : Chg S H H := ⟨rfl, fun _ _ => rfl⟩
theorem Chg.trans {S : List Nat} {a b c : AH} (h : Chg S a b) (k : Chg S b c) : Chg S a c := ⟨k.1.trans h.1, fun x hx => (k.2 x hx).trans (h.2 x hx)⟩
theorem Chg.sub {S T : List Nat} {a b : AH} (h : Chg S a b) (hs : ∀ x ∈ S, x ∈ T) : Chg T a b := ⟨h.1, fun x hx => h.2 x fun hm => hx (hs x hm)⟩
theorem Chg.set {S : List Nat} {H H' : AH} (h : Chg S H H') {b : Nat} (hb : b ∈ S) (B : Blk) : Chg S H (H'.set b B) := ⟨h.1, fun x hx => by rw [blk_set, if_neg (by rintro rfl; exact hx hb)]; exact h.2 x hx⟩
theorem Chg.wf {S : List Nat} {H H' : AH} (h : Chg S H H') (hw : H.wf) (hS : ∀ b ∈ S, b < H.nxt) : H'.wf := by
  intro b hb
  rw [h.1] at hb
  rw [h.2 b fun hm => by have := hS b hm; omega]
  exact hw b hb
theorem OwnS.chg {α : Type} [Ob α] [Own α] {S T : List Nat} {H H' : AH} {v : AV} {xs : List α} (h : OwnS H T v xs) (c : Chg S H H') (hd : ∀ b ∈ T, b ∉ S) : OwnS H' T v xs := h.eq fun b hb => c.2 b (hd b hb)
theorem Own.chg {α : Type} [Ob α] [Own α] {S T : List Nat} {H H' : AH} {cs : List AV} {x : α} (h : Own.own H T cs x) (c : Chg S H H') (hd : ∀ b ∈ T, b ∉ S) : Own.own H' T cs x := Own.eq h fun b hb => c.2 b (hd b hb)
theorem OwnS.sub {α : Type} [Ob α] [Own α] {T : List Nat} {H H' : AH} {v : AV} {xs : List α} (h : OwnS H T v xs) (hs : Sub H H') : OwnS H' T v xs := h.eq (hs.keep h.isin)
theorem Own.sub {α : Type} [Ob α] [Own α] {T : List Nat} {H H' : AH} {cs : List AV} {x : α} (h : Own.own H T cs x) (hs : Sub H H') : Own.own H' T cs x := Own.eq h (hs.keep (Own.isin h))
/-! ### What is new -/
/-- A slice in blocks that are new. -/
def NewS {α : Type} [Ob α] [Own α] (H H' : AH) (v : AV) (xs : List α) : Prop := Sub H H' ∧ ∃ S, OwnS H' S v xs ∧ Fresh H.nxt S
def NewV {α : Type} [Ob α] [Own α] (H H' : AH) (v : AV) (x : α) : Prop := Sub H H' ∧ ∃ S cs, v = .agg cs ∧ Own.own H' S cs x ∧ Fresh H.nxt S
/-- A fresh slice of elements under way: the first i are laid, and own what they lead to. -/
structure LayO {α : Type} [Ob α] [Own α] (H : AH) (H' : AH) (n i : Nat) (xs : List α) : Prop where
  sub : Sub H H'
  lt : H.nxt < H'.nxt
  blk : ∃ cs T, H'.blk H.nxt = some ⟨cs, Ob.n α⟩ ∧ cs.length = n * Ob.n α ∧ Owns H' T (cs.take (i * Ob.n α)) (xs.take i) ∧ Fresh (H.nxt + 1) T
theorem LayO.start {α : Type} [Ob α] [Own α] {H : AH} (hw : H.wf) {z : List Value} {n s : Nat} {xs : List α} (hz : z.length = s) (hs : s = Ob.n α) : LayO H (H.new (zerosA z n) s) n 0 xs := by
  subst hs
  refine ⟨(Sub.refl H).new hw _ _, by rw [nxt_new]; omega, zerosA z n, [], blk_new_self _ _ _, zeros_len _ _ _ hz, ?_, Fresh.nil _⟩
  simp
  exact .nil
theorem LayO.more {α : Type} [Ob α] [Own α] {H H' H'' : AH} {n i : Nat} {xs : List α} (h : LayO H H' n i xs) (hs : Sub H' H'') : LayO H H'' n i xs := by
  obtain ⟨h1, h2, cs, T, h4, h5, h6, h7⟩ := h
  exact ⟨h1.trans hs, Nat.lt_of_lt_of_le h2 hs.1, cs, T, hs.2 _ _ h4, h5, h6.eq (hs.keep h6.isin), h7⟩
theorem LayO.put {α : Type} [Ob α] [Own α] {H H0 H' : AH} {n i : Nat} {xs : List α} (hw : H.wf) (hw0 : H0.wf) (h0 : LayO H H0 n i xs) (hs : Sub H0 H') (hi : i < n) (hx : i < xs.length) {c : List AV} {S2 : List Nat} (hc : Own.own H' S2 c xs[i]) (hf : Fresh H0.nxt S2) {B : Blk} (hB : H'.blk H.nxt = some B) :
    LayO H (H'.set H.nxt ⟨wr B.cells (i * Ob.n α) c, B.esz⟩) n (i + 1) xs := by
  have hlt0 := h0.lt
  obtain ⟨g1, g2, g3, T0, g4, g5, g6, g7⟩ := h0
  have hT : ∀ b ∈ T0, b < H0.nxt := fun b hb => hw0.lt' (g6.isin b hb)
  have h4 := hs.2 _ _ g4
  rw [hB] at h4
  injection h4 with h4
  subst h4
  have hle : (i + 1) * Ob.n α ≤ n * Ob.n α := Nat.mul_le_mul_right _ hi
  rw [Nat.add_mul, Nat.one_mul] at hle
  have hl := Ob.len (Own.rep (W0 := default) hc)
  have h6 := g6.eq (hs.keep g6.isin)
  refine ⟨?_, Nat.lt_of_lt_of_le g2 hs.1, wr g3 (i * Ob.n α) c, T0 ++ S2, by rw [blk_set, if_pos rfl], ?_, ?_, g7.append hf hT (by omega)⟩
  · exact (g1.trans hs).set hw (Nat.le_refl _) _
  · simp only [wr, List.length_append, List.length_take, List.length_drop]; omega
  · have : (wr g3 (i * Ob.n α) c).take ((i + 1) * Ob.n α) = g3.take (i * Ob.n α) ++ c := by
      rw [wr, List.take_append_of_le_length (by simp; rw [Nat.add_mul]; omega), List.take_of_length_le]
      simp; rw [Nat.add_mul]; omega
    rw [this, List.take_succ_eq_append_getElem hx]
    have hset : ∀ b, b ≠ H.nxt → (H'.set H.nxt ⟨wr g3 (i * Ob.n α) c, Ob.n α⟩).blk b = H'.blk b := fun b hb => by rw [blk_set, if_neg hb]
    refine (h6.eq fun b hb => hset b ?_).append (Owns.one (Own.eq hc fun b hb => hset b ?_))
    · have := g7.2 b hb; omega
    · have := hf.2 b hb; omega
theorem LayO.done {α : Type} [Ob α] [Own α] {H H' : AH} {xs : List α} (h : LayO H H' xs.length xs.length xs) (hb : xs.length ≤ big) : NewS H H' (.sl H.nxt 0 xs.length) xs := by
  obtain ⟨h1, h2, cs, T, h4, h5, h6, h7⟩ := h
  rw [List.take_of_length_le (by omega), List.take_of_length_le (Nat.le_refl _)] at h6
  refine ⟨h1, H.nxt :: T, .inr ⟨H.nxt, 0, cs, T, rfl, h4, by omega, hb, rfl, ?_⟩, (h7.le (Nat.le_succ _)).cons (Nat.le_refl _) fun hm => ?_⟩
  · rw [List.drop_zero, List.take_of_length_le (by omega)]; exact h6
  · have := h7.2 _ hm; omega
/-! ### Marks -/
class Mk (α : Type) where
  cnt : α → Nat
  put : α → Int → α
section
variable {α : Type} [Mk α]
def cntL (xs : List α) : Nat := (xs.map Mk.cnt).sum
def putL : List α → Int → List α
  | [], _ => []
  | x :: xs, k => Mk.put x k :: putL xs (k + Mk.cnt x)
theorem putL_length : ∀ (xs : List α) (k : Int), (putL xs k).length = xs.length
  | [], _ => rfl
  | x :: xs, k => by simp [putL, putL_length xs]
theorem cntL_take {xs : List α} {i : Nat} (hi : i < xs.length) : cntL (xs.take (i + 1)) = cntL (xs.take i) + Mk.cnt xs[i] := by
  simp only [cntL]
  rw [List.take_succ_eq_append_getElem hi, List.map_append, List.sum_append]; simp
theorem cntL_cons (x : α) (xs : List α) : cntL (x :: xs) = Mk.cnt x + cntL xs := by simp [cntL]
theorem cntL_take_le (xs : List α) (i : Nat) : cntL (xs.take i) ≤ cntL xs := sum_take_le _ xs i
theorem putL_get : ∀ (xs : List α) (k : Int) (i : Nat) (hi : i < xs.length), (putL xs k)[i]? = some (Mk.put xs[i] (k + cntL (xs.take i)))
  | x :: xs, k, 0, _ => by simp [putL, cntL]
  | x :: xs, k, i + 1, hi => by
    simp only [putL, List.getElem?_cons_succ, List.take_succ_cons, cntL_cons, List.getElem_cons_succ]
    rw [putL_get xs _ i (by simpa using hi)]
    congr 2
    omega
def mkTo (xs : List α) (k : Int) (i : Nat) : List α := putL (xs.take i) k ++ xs.drop i
theorem mkTo_zero (xs : List α) (k : Int) : mkTo xs k 0 = xs := by simp [mkTo, putL]
theorem mkTo_all (xs : List α) (k : Int) {i : Nat} (h : xs.length ≤ i) : mkTo xs k i = putL xs k := by simp [mkTo, List.take_of_length_le h, List.drop_eq_nil_of_le h]
theorem mkTo_length (xs : List α) (k : Int) (i : Nat) : (mkTo xs k i).length = xs.length := by simp [mkTo, putL_length]; omega
theorem mkTo_get (xs : List α) (k : Int) (i : Nat) (hi : i < xs.length) : (mkTo xs k i)[i]'(by rw [mkTo_length]; exact hi) = xs[i] := by
  have : (putL (xs.take i) k).length = i := by rw [putL_length]; simp; omega
  have h2 : (mkTo xs k i)[i]? = some xs[i] := by
    rw [mkTo, List.getElem?_append_right (by omega), this, Nat.sub_self, List.getElem?_drop]; simp [hi]
  rw [List.getElem?_eq_getElem (by rw [mkTo_length]; exact hi)] at h2
  injection h2
theorem putL_append : ∀ (xs ys : List α) (k : Int), putL (xs ++ ys) k = putL xs k ++ putL ys (k + cntL xs)
  | [], ys, k => by simp [putL, cntL]
  | x :: xs, ys, k => by
    simp only [List.cons_append, putL, putL_append xs ys, cntL_cons]
    congr 3
    omega
theorem mkTo_set (xs : List α) (k : Int) (i : Nat) (hi : i < xs.length) : (mkTo xs k i).set i (Mk.put xs[i] (k + cntL (xs.take i))) = mkTo xs k (i + 1) := by
  have hl : (putL (xs.take i) k).length = i := by rw [putL_length]; simp; omega
  rw [mkTo, List.set_append_right _ _ (by omega), hl, Nat.sub_self, List.drop_eq_getElem_cons hi, List.set_cons_zero]
  rw [mkTo, List.take_succ_eq_append_getElem hi, putL_append]
  simp [putL]
end
instance {α : Type} [Mk α] : Mk (List α) := ⟨cntL, putL⟩
instance : Mk Int := ⟨fun _ => 1, fun _ k => k⟩
/-! ### Writing behind a beginning -/
theorem wr_pre {pre : List AV} {p : Nat} (h : pre.length = p) (r : List AV) (f : Nat) (cs : List AV) : wr (pre ++ r) (p + f) cs = pre ++ wr r f cs := by
  subst h
  simp [wr, List.take_append, List.drop_append, Nat.add_assoc, List.take_of_length_le, List.drop_eq_nil_of_le]
theorem wr_preA {pre : List AV} {o q : Nat} (h : pre.length = o + q) (r : List AV) (f : Nat) (cs : List AV) : wr (pre ++ r) (o + (q + f)) cs = pre ++ wr r f cs := by
  rw [← Nat.add_assoc]; exact wr_pre h r f cs
theorem wr_pre0 {pre : List AV} {p : Nat} (h : pre.length = p) (r cs : List AV) : wr (pre ++ r) p cs = pre ++ wr r 0 cs := by
  have := wr_pre h r 0 cs
  rwa [Nat.add_zero] at this
theorem wr_succ (a : AV) (l : List AV) (f : Nat) (cs : List AV) : wr (a :: l) (f + 1) cs = a :: wr l f cs := by
  simp [wr, Nat.add_right_comm]
theorem wr_zero (a x : AV) (l cs : List AV) : wr (a :: l) 0 (x :: cs) = x :: wr l 0 cs := by simp [wr]
theorem wr_none (l : List AV) : wr l 0 [] = l := by simp [wr]
theorem set_set (H : AH) (b : Nat) (B B' : Blk) : (H.set b B).set b B' = H.set b B' := by
  simp only [AH.set, AH.mk.injEq, and_true]
  funext x
  by_cases h : x = b <;> simp [h]
theorem foc_ne {S S1 S2 S3 : List Nat} {b : Nat} (hS : S = b :: (S1 ++ (S2 ++ S3))) (hn : S.Nodup) : ∀ x ∈ S1 ++ S3, x ≠ b := by
  subst hS
  rintro x hx rfl
  refine (List.nodup_cons.1 hn).1 ?_
  rcases List.mem_append.1 hx with hx | hx
  · exact List.mem_append_left _ hx
  · exact List.mem_append_right _ (List.mem_append_right _ hx)
theorem blk_set_self (H : AH) (b : Nat) (B : Blk) : (H.set b B).blk b = some B := by rw [blk_set, if_pos rfl]
theorem blk_set_ne (H : AH) {b x : Nat} (h : x ≠ b) (B : Blk) : (H.set b B).blk x = H.blk x := by rw [blk_set, if_neg h]
theorem drop_pre {pre : List AV} {p : Nat} (h : pre.length = p) (r : List AV) (f : Nat) : (pre ++ r).drop (p + f) = r.drop f := by
  subst h
  simp [List.drop_append, List.drop_eq_nil_of_le]
theorem drop_preA {pre : List AV} {o q : Nat} (h : pre.length = o + q) (r : List AV) (f : Nat) : (pre ++ r).drop (o + (q + f)) = r.drop f := by
  rw [← Nat.add_assoc]; exact drop_pre h r f
theorem drop_pre0 {pre : List AV} {p : Nat} (h : pre.length = p) (r : List AV) : (pre ++ r).drop p = r := by
  subst h
  simp
end Go.Proofs.Ythcjolappblieaa.Aw
