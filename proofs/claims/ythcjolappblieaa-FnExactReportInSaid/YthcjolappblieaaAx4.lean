/- The calculus 'Aw' at work, part 4: data laid in memory; loops; what a function may leave behind. -/
import Derived.Test.YthcjolappblieaaAxD
import Derived.DataElems
namespace Go.Proofs.Ythcjolappblieaa.Aw
open Go Go.RowKit
set_option linter.unusedVariables false
set_option linter.unusedSimpArgs false
set_option linter.unusedSectionVars false
variable {P : Program} {W0 : World}

/-! ### Memory that is closed -/
def AH.closed (H : AH) : Prop := H.wf ∧ ∀ b B, H.blk b = some B → refsLts H.nxt B.cells
mutual
theorem VR.refs {φ : Phi} {n : Nat} (hn : ∀ b, n ≤ b → φ b = none) : {a : AV} → {y : Value} → VR φ a y → refsLt n a
  | _, _, .v x => trivial
  | _, _, .ptr (b := b) h => by
    simp only [refsLt]
    rcases Nat.lt_or_ge b n with h1 | h1
    · exact h1
    · rw [hn b h1] at h; cases h
  | _, _, .sl (b := b) h _ _ => by
    simp only [refsLt]
    rcases Nat.lt_or_ge b n with h1 | h1
    · exact h1
    · rw [hn b h1] at h; cases h
  | _, _, .slc (b := b) h _ _ => by
    simp only [refsLt]
    rcases Nat.lt_or_ge b n with h1 | h1
    · exact h1
    · rw [hn b h1] at h; cases h
  | _, _, .sl0 _ => trivial
  | _, _, .agg h => VRs.refs hn h
  | _, _, .tup h => VRs.refs hn h
  | _, _, .fn h => VRs.refs hn h
  | _, _, .dead y => trivial
theorem VRs.refs {φ : Phi} {n : Nat} (hn : ∀ b, n ≤ b → φ b = none) : {l : List AV} → {ys : List Value} → VRs φ l ys → refsLts n l
  | _, _, .nil => trivial
  | _, _, .cons h k => ⟨VR.refs hn h, VRs.refs hn k⟩
end
theorem refsLts_of {n : Nat} : {l : List AV} → (∀ (i : Nat) (v : AV), l[i]? = some v → refsLt n v) → refsLts n l
  | [], _ => trivial
  | a :: l, h => ⟨h 0 a rfl, refsLts_of fun i v hv => h (i + 1) v (by simpa using hv)⟩
theorem Inv.closed {W : World} {φ : Phi} {H : AH} (hI : Inv W0 φ H W) : H.closed := by
  refine ⟨hI.wf, fun b B hB => ?_⟩
  obtain ⟨p, _, _, _, _, C, e, _, _, h⟩ := hI.blks b B hB
  refine refsLts_of fun j v hj => ?_
  obtain ⟨y, _, hv⟩ := h j v hj
  exact hv.refs hI.non
theorem acalls_closed {f : FuncId} {args : List AV} {H : AH} {R : AV → AH → Prop} (hc : callable P f = true) (h : H.closed → ACalls P W0 f args H R) : ACalls P W0 f args H R :=
  ⟨hc, fun φ W ys hI hv => (h hI.closed).2 φ W ys hI hv⟩
/-- A function's contract out of its code; the memory that it is called in is closed. -/
theorem acalls {f : FuncId} {fn : Func} {c : Code} (hf : P.funcs[f]? = some fn) (hb : fn.body = some c) (hc : callable P f = true) {args : List AV} (hd : dstsOk (args.length + (fn.ntmps - args.length)) c = true) {H : AH} {R : AV → AH → Prop}
    (h : H.closed → acode P W0 H.nxt c (retA P W0 H.nxt fn.results.toList R) (env0 args) H) : ACalls P W0 f args H R :=
  acalls_closed hc fun h1 => acalls_of hf hb hc hd (h h1)

/-! ### What stays -/
theorem Sub.refl (H : AH) : Sub H H := ⟨Nat.le_refl _, fun _ _ h => h⟩
theorem Sub.trans {a b c : AH} (h : Sub a b) (k : Sub b c) : Sub a c := ⟨Nat.le_trans h.1 k.1, fun x B hB => k.2 x B (h.2 x B hB)⟩
theorem AH.wf.lt {H : AH} (hw : H.wf) {b : Nat} {B : Blk} (h : H.blk b = some B) : b < H.nxt := by
  rcases Nat.lt_or_ge b H.nxt with h1 | h1
  · exact h1
  · rw [hw b h1] at h; cases h
theorem Sub.new {H H' : AH} (hw : H.wf) (h : Sub H H') (cs : List AV) (s : Nat) : Sub H (H'.new cs s) := by
  refine ⟨Nat.le_succ_of_le h.1, fun b B hB => ?_⟩
  have := hw.lt hB
  have h1 := h.1
  rw [blk_new, if_neg (by omega)]
  exact h.2 b B hB
theorem Sub.set {H H' : AH} (hw : H.wf) (h : Sub H H') {b : Nat} (hb : H.nxt ≤ b) (B : Blk) : Sub H (H'.set b B) := by
  refine ⟨h.1, fun x B hB => ?_⟩
  have := hw.lt hB
  rw [blk_set, if_neg (by omega)]
  exact h.2 x B hB
theorem Sub.kill {H H' : AH} (hw : H.wf) (h : Sub H H') {b : Nat} (hb : H.nxt ≤ b) : Sub H (H'.kill b) := by
  refine ⟨h.1, fun x B hB => ?_⟩
  have := hw.lt hB
  rw [blk_kill, if_neg (by omega)]
  exact h.2 x B hB
/-- A function hands back a value that leads to nothing new, and leaves nothing. -/
theorem retK_same {H H' : AH} {R : AV → AH → Prop} {v : AV} (hc : H.closed) (hs : Sub H H') (hv : refsLt H.nxt v) (hR : R v H) : retK H.nxt H' R (some [v]) :=
  ⟨H, .inr ⟨Nat.le_refl _, hs.2, hc.1, .inr ⟨hs.1, hc.2⟩⟩, .inr hv, hR⟩
theorem fr_nil (u : Nat) : fr [] u = .dead := rfl
attribute [go_sem] fr_nil

/-! ### Loops -/
def frOk (e : Env) : List (Nat × AV) → Prop
  | [] => True
  | (t, v) :: l => e t = v ∧ frOk e l
theorem fr_of {e : Env} : {l : List (Nat × AV)} → frOk e l → ∀ t, fr l t = .dead ∨ fr l t = e t
  | [], _, t => .inl rfl
  | (u, v) :: l, h, t => by
    rw [fr_cons]
    split
    · rename_i ht; subst ht; exact .inr h.1.symm
    · exact fr_of h.2 t
variable {N0 : Nat}
theorem Head.mk {I : Nat → Env → AH → Prop} {n : Nat} {e : Env} {H : AH} (m : Nat) (l : List (Nat × AV)) (hm : m < n) (hl : frOk e l) (hI : I m (fr l) H) : Head N0 I n e H :=
  ⟨m, fr l, H, hm, ⟨.inl rfl, fun t => (fr_of hl t).imp id fun h => ⟨h, .inl rfl⟩⟩, hI⟩
theorem acode_inv {c : Code} {Q : AX → Env → AH → Prop} {e : Env} {H : AH} (I : Nat → Env → AH → Prop) (n : Nat) (h0 : Head N0 I n e H) (hs : ∀ n e H, I n e H → acode P W0 N0 c (loopQ (Head N0 I n) Q) e H) : acode P W0 N0 (.loop c) Q e H := ⟨I, n, h0, hs⟩

/-! ### Data -/
def inI64 (n : Int) : Prop := -9223372036854775808 ≤ n ∧ n ≤ 9223372036854775807
def big : Nat := 9223372036854775807
/-- A Lean type whose values lie in memory as rows of cells. -/
class Ob (α : Type) where
  n : Nat
  rep : World → AH → List AV → α → Prop
  len : ∀ {W0 H cs x}, rep W0 H cs x → cs.length = n
  sub : ∀ {W0 H H' cs x}, Sub H H' → rep W0 H cs x → rep W0 H' cs x
  leaf : ∀ {W0 H cs x}, rep W0 H cs x → cs.all leafA = true
  sz : α → Nat
instance : Ob Int where
  n := 1
  rep _ _ cs x := cs = [.v (.int .i64 x)] ∧ inI64 x
  len := by rintro _ _ _ _ ⟨rfl, _⟩; rfl
  sub _ h := h
  leaf := by rintro _ _ _ _ ⟨rfl, _⟩; rfl
  sz _ := 0
instance : Ob Bool where
  n := 1
  rep _ _ cs x := cs = [.v (.bool x)]
  len := by rintro _ _ _ _ rfl; rfl
  sub _ h := h
  leaf := by rintro _ _ _ _ rfl; rfl
  sz _ := 0
instance : Ob ByteArray where
  n := 1
  rep _ _ cs x := cs = [.v (.string x)] ∧ x.size ≤ big
  len := by rintro _ _ _ _ ⟨rfl, _⟩; rfl
  sub _ h := h
  leaf := by rintro _ _ _ _ ⟨rfl, _⟩; rfl
  sz x := x.size
inductive Reps {α : Type} [Ob α] (W0 : World) (H : AH) : List AV → List α → Prop
  | nil : Reps W0 H [] []
  | cons {c cs : List AV} {x : α} {xs : List α} : Ob.rep W0 H c x → Reps W0 H cs xs → Reps W0 H (c ++ cs) (x :: xs)
/-- A slice's length, of slices that do not come out of a slicing with a limit. -/
def slN : AV → Option Nat
  | .sl _ _ n => some n
  | .v (.slice _ n _) => some n
  | _ => none
theorem slN_len {v : AV} {n : Nat} (h : slN v = some n) : slLen v = some n := by
  unfold slN at h; split at h <;> first | exact h | cases h
/-- A slice in memory. -/
def SlR {α : Type} [Ob α] (W0 : World) (H : AH) (v : AV) (xs : List α) : Prop :=
  slN v = some xs.length ∧ xs.length ≤ big ∧ ∃ cs, slCells W0 H (Ob.n α) xs.length v = some cs ∧ Reps W0 H cs xs
section
variable {α : Type} [Ob α]
theorem Reps.len {H : AH} {cs : List AV} {xs : List α} (h : Reps W0 H cs xs) : cs.length = xs.length * Ob.n α := by
  induction h with
  | nil => simp
  | cons h _ ih => rw [List.length_append, ih, Ob.len h, List.length_cons, Nat.add_mul]; omega
theorem Reps.sub {H H' : AH} (hs : Sub H H') {cs : List AV} {xs : List α} (h : Reps W0 H cs xs) : Reps W0 H' cs xs := by
  induction h with
  | nil => exact .nil
  | cons h _ ih => exact .cons (Ob.sub hs h) ih
theorem Reps.leaf {H : AH} {cs : List AV} {xs : List α} (h : Reps W0 H cs xs) : cs.all leafA = true := by
  induction h with
  | nil => rfl
  | cons h _ ih => rw [List.all_append, Ob.leaf h, ih]; rfl
theorem Reps.get {H : AH} {cs : List AV} {xs : List α} (h : Reps W0 H cs xs) (i : Nat) (hi : i < xs.length) : Ob.rep W0 H ((cs.drop (i * Ob.n α)).take (Ob.n α)) xs[i] := by
  induction h generalizing i with
  | nil => simp at hi
  | cons h hr ih =>
    cases i with
    | zero =>
      rw [Nat.zero_mul, List.drop_zero]
      rw [← Ob.len h, List.take_left]
      exact h
    | succ i =>
      have := ih i (by simpa using hi)
      rw [Nat.add_mul, Nat.one_mul, Nat.add_comm (i * Ob.n α), ← Ob.len h, ← List.drop_drop, List.drop_left, Ob.len h]
      exact this
theorem Reps.append {H : AH} {cs ds : List AV} {xs ys : List α} (h : Reps W0 H cs xs) (k : Reps W0 H ds ys) : Reps W0 H (cs ++ ds) (xs ++ ys) := by
  induction h with
  | nil => exact k
  | cons h _ ih => rw [List.append_assoc]; exact .cons h ih
theorem Reps.take {H : AH} {cs : List AV} {xs : List α} (h : Reps W0 H cs xs) (i : Nat) : Reps W0 H (cs.take (i * Ob.n α)) (xs.take i) := by
  induction h generalizing i with
  | nil => simp; exact .nil
  | cons h _ ih =>
    cases i with
    | zero => simp; exact .nil
    | succ i =>
      rw [Nat.add_mul, Nat.one_mul, Nat.add_comm (i * Ob.n α), ← Ob.len h, List.take_length_add_append, List.take_succ_cons]
      rw [Ob.len h] ; exact .cons h (ih i)
theorem Reps.drop {H : AH} {cs : List AV} {xs : List α} (h : Reps W0 H cs xs) (i : Nat) : Reps W0 H (cs.drop (i * Ob.n α)) (xs.drop i) := by
  induction h generalizing i with
  | nil => simp; exact .nil
  | cons h hr ih =>
    cases i with
    | zero => simp; exact .cons h hr
    | succ i =>
      rw [Nat.add_mul, Nat.one_mul, Nat.add_comm (i * Ob.n α), ← List.drop_drop, ← Ob.len h, List.drop_left, List.drop_succ_cons, Ob.len h]
      exact ih i
/-- One element is written anew. -/
theorem Reps.set {H : AH} {cs : List AV} {xs : List α} (h : Reps W0 H cs xs) (i : Nat) (hi : i < xs.length) {c : List AV} {x : α} (hc : Ob.rep W0 H c x) : Reps W0 H (wr cs (i * Ob.n α) c) (xs.set i x) := by
  have h1 := h.take i
  have h2 := h.drop (i + 1)
  have : xs.set i x = xs.take i ++ (x :: xs.drop (i + 1)) := by
    rw [List.set_eq_take_append_cons_drop, if_pos hi]
  rw [this, wr, List.append_assoc]
  refine h1.append ?_
  rw [Ob.len hc, show i * Ob.n α + Ob.n α = (i + 1) * Ob.n α by rw [Nat.add_mul]; omega]
  exact .cons hc h2
theorem SlR.sub {H H' : AH} (hs : Sub H H') {v : AV} {xs : List α} (h : SlR W0 H v xs) : SlR W0 H' v xs := by
  obtain ⟨h1, h2, cs, h3, h4⟩ := h
  refine ⟨h1, h2, cs, ?_, h4.sub hs⟩
  cases v with
  | sl b o m =>
    simp only [slCells] at h3 ⊢
    split at h3
    · rename_i hn
      rw [if_pos hn]
      obtain ⟨B, hB, h3⟩ := Option.bind_eq_some_iff.1 h3
      rw [hs.2 _ _ hB]
      exact h3
    · cases h3
  | v x =>
    cases x with
    | slice a n c => cases a <;> exact h3
    | _ => exact h3
  | slc b o n c => cases h1
  | _ => exact h3
theorem SlR.slLen {H : AH} {v : AV} {xs : List α} (h : SlR W0 H v xs) : slLen v = some xs.length := slN_len h.1
theorem SlR.leaf {H : AH} {v : AV} {xs : List α} (h : SlR W0 H v xs) : leafA v = true := by
  have := h.1
  unfold slN at this
  split at this <;> first | rfl | cases this
theorem SlR.one {H : AH} {v : AV} {xs : List α} (h : SlR W0 H v xs) : cellsA v = some [v] := by
  have := h.1
  unfold slN at this
  split at this <;> first | rfl | cases this
instance : Ob (List α) where
  n := 1
  rep W0 H cs xs := ∃ v, cs = [v] ∧ SlR W0 H v xs
  len := by rintro _ _ _ _ ⟨v, rfl, _⟩; rfl
  sub := by rintro _ _ _ _ _ hs ⟨v, rfl, h⟩; exact ⟨v, rfl, h.sub hs⟩
  leaf := by rintro _ _ _ _ ⟨v, rfl, h⟩; simp [h.leaf]
  sz xs := xs.length + (xs.map Ob.sz).sum
theorem mapM_some_iff {β γ : Type} (f : β → Option γ) : ∀ (l : List β) (ys : List γ), l.mapM f = some ys ↔ l.map f = ys.map some
  | [], ys => by cases ys <;> simp
  | x :: l, ys => by
    rw [List.mapM_cons]
    cases hx : f x with
    | none => cases ys <;> simp [hx]
    | some y =>
      cases hl : l.mapM f with
      | none =>
        cases ys with
        | nil => simp
        | cons z ys =>
          have := (mapM_some_iff f l ys).2
          simp only [List.map_cons, hx, List.cons.injEq]
          constructor
          · intro h; simp [hl] at h
          · rintro ⟨_, h⟩; rw [hl] at this; cases this h
      | some zs =>
        have := (mapM_some_iff f l zs).1 hl
        cases ys with
        | nil => simp [hl]
        | cons z ys =>
          simp only [List.map_cons, hx, List.cons.injEq, this]
          simp [hl]
          intro _
          constructor
          · rintro rfl; rfl
          · intro h
            have := congrArg (List.filterMap id) h
            simpa [List.filterMap_map] using this
theorem rdOld_iff {n : Nat} {a : Addr} {l : List Value} : rdOld W0 a n = some l ↔ l.length = n ∧ ∀ i, i < n → W0.cell? (a.add i) = l[i]? := by
  unfold rdOld
  rw [mapM_some_iff]
  constructor
  · intro h
    have h0 := congrArg List.length h
    simp at h0
    refine ⟨h0.symm, fun i hi => ?_⟩
    have := congrArg (fun l => l[i]?) h
    simp [hi] at this
    rw [List.getElem?_eq_getElem (by omega)] at this ⊢
    simpa using this
  · rintro ⟨h0, h1⟩
    apply List.ext_getElem?
    intro i
    by_cases hi : i < n
    · have := h1 i hi
      rw [List.getElem?_eq_getElem (by omega)] at this
      simp [hi, this, h0]
    · simp [hi]
      rw [List.getElem?_eq_none (by omega)]; simp
/-- An element's place, out of a slice. -/
theorem aixs_SlR {K : Kt} {H : AH} {v : AV} {xs : List α} {g : Bool} {s b : Nat} {z : List Value} {k : IntKind} {j : Int} (h : SlR W0 H v xs) (hs : s = Ob.n α) (h0 : 0 ≤ j) (h1 : j < xs.length) (hk : K.k (ixA s v j.toNat) H) : aixs (K := K) (some ⟨g, s, b, z⟩) v (.v (.int k j)) H := by
  obtain ⟨e1, e2, cs, e3, e4⟩ := h
  subst hs
  unfold slCells at e3
  unfold slN at e1
  split at e1
  · simp only at e3
    split at e3
    · obtain ⟨B, hB, e3⟩ := Option.bind_eq_some_iff.1 e3
      split at e3
      · rename_i hB2
        injection e1 with e1
        subst e1
        refine ⟨h0, h1, ?_, hk⟩
        rw [hB]; exact hB2.1
      · cases e3
    · cases e3
  · rename_i a m c
    injection e1 with e1
    subst e1
    cases a with
    | some a => exact ⟨h0, h1, hk⟩
    | none =>
      simp only at e3
      split at e3
      · omega
      · cases e3
  · cases e1
/-- What lies there. -/
theorem SlR.rd {H : AH} {v : AV} {xs : List α} (h : SlR W0 H v xs) (j : Nat) (hj : j < xs.length) : ∃ cs, rdCells W0 H (Ob.n α) (ixA (Ob.n α) v j) = some cs ∧ Ob.rep W0 H cs xs[j] := by
  obtain ⟨e1, e2, cs, e3, e4⟩ := h
  have hl := e4.len
  have hle : (j + 1) * Ob.n α ≤ xs.length * Ob.n α := Nat.mul_le_mul_right _ hj
  rw [Nat.add_mul, Nat.one_mul] at hle
  refine ⟨(cs.drop (j * Ob.n α)).take (Ob.n α), ?_, e4.get j hj⟩
  unfold slCells at e3
  unfold slN at e1
  split at e1
  · rename_i b o m
    injection e1 with e1
    subst e1
    simp only at e3
    split at e3
    · obtain ⟨B, hB, e3⟩ := Option.bind_eq_some_iff.1 e3
      split at e3
      · rename_i hB2
        simp only [Option.some.injEq] at e3
        simp only [ixA, rdCells, hB, Option.bind_some]
        rw [if_pos (by omega), ← e3, List.drop_take, List.take_take, List.drop_drop]
        congr 2
        omega
      · cases e3
    · cases e3
  · rename_i a m c
    injection e1 with e1
    subst e1
    cases a with
    | none =>
      simp only at e3
      split at e3
      · rename_i hz; omega
      · cases e3
    | some a =>
      simp only at e3
      split at e3
      case isFalse => cases e3
      simp only [ixA, rdCells]
      simp only [Option.map_eq_some_iff] at e3 ⊢
      obtain ⟨l, hl1, rfl⟩ := e3
      refine ⟨(l.drop (j * Ob.n α)).take (Ob.n α), ?_, by rw [List.map_take, List.map_drop]⟩
      have hll : l.length = xs.length * Ob.n α := by simpa using hl
      rw [rdOld_iff] at hl1 ⊢
      refine ⟨by simp; omega, fun i hi => ?_⟩
      have h2 := hl1.2 (j * Ob.n α + i) (by omega)
      rw [List.getElem?_take, if_pos hi, List.getElem?_drop, ← h2]
      rw [Addr.add_add]
  · cases e1
theorem SlR.rdn {s : Nat} (hs : s = Ob.n α) {H : AH} {v : AV} {xs : List α} (h : SlR W0 H v xs) (j : Nat) (hj : j < xs.length) : ∃ cs, rdCells W0 H s (ixA s v j) = some cs ∧ Ob.rep W0 H cs xs[j] := by
  subst hs; exact h.rd j hj
end
end Go.Proofs.Ythcjolappblieaa.Aw
