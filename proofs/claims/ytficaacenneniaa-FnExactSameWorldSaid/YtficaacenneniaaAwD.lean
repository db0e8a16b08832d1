/- The calculus 'Aw', part 8a: regions whose order is drawn. -/
import Derived.Test.YtficaacenneniaaAw7
import Derived.Orders
namespace Go.Proofs.Ytficaacenneniaa.Aw
open Go Go.RowKit
set_option linter.unusedVariables false
set_option linter.unusedSimpArgs false
set_option linter.unusedSectionVars false
variable {P : Program} {W0 : World}

def putA (d : Option Nat) (v : AV) (e : Env) : Env := match d with | some t => upd e t v | none => e
/-- The temporary that a guard looks at. -/
def gtmp (all : Array Oper) (j : Nat) : Option Nat := (all[j]?).bind (·.dst)
def want1 (all : Array Oper) (e : Env) (o : Oper) : Option Bool := match o.guard with
  | none => some true
  | some (j, w) => match gtmp all j with
    | some t => match e t with
      | .v (.bool b) => some (b == w)
      | .v (.tuple _) => some false
      | _ => none
    | none => none
/-- One operation, with its guard. -/
def aop1 (P : Program) (W0 : World) (all : Array Oper) (o : Oper) (K : Env → AH → Prop) (e : Env) (H : AH) : Prop := match want1 all e o with
  | some true => aop P W0 o.op e H fun v H' => K (putA o.dst v e) H'
  | some false => K (putA o.dst (.v undef) e) H
  | none => False

theorem aop_congr {op : Op} {e e' : Env} {H : AH} {K : AV → AH → Prop} (h : ∀ x ∈ op.operands.toList, ev e x = ev e' x) : aop P W0 op e H K = aop P W0 op e' H K := by
  cases op with
  | build t parts =>
    have : (parts.toList.map fun p => (p.1, ev e p.2)) = parts.toList.map fun p => (p.1, ev e' p.2) := List.map_congr_left fun p hp => by rw [h p.2 (by simp [Op.operands]; exact ⟨p.1, by simpa using hp⟩)]
    simp only [aop, this]
  | buildSlice t len parts =>
    have : (parts.toList.map fun p => (p.1, ev e p.2)) = parts.toList.map fun p => (p.1, ev e' p.2) := List.map_congr_left fun p hp => by rw [h p.2 (by simp [Op.operands]; exact ⟨p.1, by simpa using hp⟩)]
    simp only [aop, this]
  | makeFunc f first caps =>
    have : caps.toList.map (ev e) = caps.toList.map (ev e') := List.map_congr_left fun p hp => h p (by simp [Op.operands]; exact .inr (by simpa using hp))
    simp only [aop, this]
  | call c =>
    have h1 : c.args.toList.map (ev e) = c.args.toList.map (ev e') := List.map_congr_left fun p hp => h p (by simp [Op.operands, Call.operands]; exact .inr (by simpa using hp))
    cases hc : c.callee with
    | value f =>
      have h2 : ev e f = ev e' f := h f (by simp [Op.operands, Call.operands, hc])
      simp only [aop, hc, h1, h2]
    | _ => simp only [aop, hc, h1]
  | slice t x lo hi mx =>
    have h0 : ev e x = ev e' x := h x (by simp [Op.operands])
    have h1 : lo.map (ev e) = lo.map (ev e') := by
      cases lo with
      | none => rfl
      | some l => simp [h l (by simp [Op.operands])]
    have h2 : hi.map (ev e) = hi.map (ev e') := by
      cases hi with
      | none => rfl
      | some l => simp [h l (by simp [Op.operands])]
    simp only [aop, h0, h1, h2]
  | _ =>
    simp only [aop]
    try (simp only [Op.operands, List.mem_cons, List.not_mem_nil, or_false, forall_eq_or_imp, forall_eq] at h)
    try simp only [h]

theorem ite_mono {c : Prop} [Decidable c] {A A' B B' : Prop} (ha : A → A') (hb : B → B') : (if c then A else B) → if c then A' else B' := by
  split <;> assumption
theorem astore_mono {H : AH} {n b o : Nat} {x : AV} {K K' : AV → AH → Prop} (hk : ∀ v H', K v H' → K' v H') (h : astore H n b o x K) : astore H n b o x K' := by
  unfold astore at *
  split at h
  · exact ⟨h.1, h.2.1, h.2.2.1, hk _ _ h.2.2.2⟩
  · exact h
theorem aappend_mono {H : AH} {t : TypeId} {d s : AV} {K K' : AV → AH → Prop} (hk : ∀ v H', K v H' → K' v H') (h : aappend P W0 H t d s K) : aappend P W0 H t d s K' := by
  unfold aappend at *
  split at h
  case h_2 => exact h
  split at h
  case h_2 => exact h
  obtain ⟨h1, h2, h3, h4, h⟩ := h
  refine ⟨h1, h2, h3, h4, ?_⟩
  split at h
  · refine ⟨h.1, ?_⟩
    have h5 := h.2
    split at h5
    · rename_i hm; rw [if_pos hm]; exact hk _ _ h5
    · rename_i hm; rw [if_neg hm]; exact hk _ _ h5
  · split at h
    · exact ⟨h.1, h.2.1, h.2.2.1, hk _ _ h.2.2.2⟩
    · exact h
  · exact h
theorem aslice_mono {H : AH} {s : Nat} {x : AV} {lo hi : Option AV} {K K' : AV → AH → Prop} (hk : ∀ v H', K v H' → K' v H') (h : aslice W0 H s x lo hi K) : aslice W0 H s x lo hi K' := by
  unfold aslice at *
  split at h
  · split at h
    · exact ⟨h.1, h.2.1, h.2.2.1, hk _ _ h.2.2.2⟩
    · exact h
  · split at h
    · split at h
      · exact ⟨h.1, h.2.1, h.2.2.1, h.2.2.2.1, hk _ _ h.2.2.2.2⟩
      · exact h
    · exact h
  · split at h
    · exact ⟨h.1, h.2.1, h.2.2.1, h.2.2.2.1, hk _ _ h.2.2.2.2⟩
    · exact h
  · exact h
theorem abuiltin_mono {b : Builtin} {ts : List TypeId} {xs : List AV} {H : AH} {K K' : AV → AH → Prop} (hk : ∀ v H', K v H' → K' v H') (h : abuiltin P W0 b ts xs H K) : abuiltin P W0 b ts xs H K' := by
  unfold abuiltin at *
  split at h
  · exact ⟨h.1, hk _ _ h.2⟩
  · refine ⟨h.1, ?_⟩
    have h2 := h.2
    split at h2
    · exact hk _ _ h2
    · exact h2
  · split at h
    · exact aappend_mono hk h
    · exact h
  · exact hk _ _ h
  · exact hk _ _ h
  · split at h
    · exact ⟨h.1, h.2.1, h.2.2.1, h.2.2.2.1, hk _ _ h.2.2.2.2⟩
    · exact h
  · exact h
theorem ACalls.mono {f : FuncId} {args : List AV} {H : AH} {R R' : AV → AH → Prop} (h : ACalls P W0 f args H R) (k : ∀ v H', R v H' → R' v H') : ACalls P W0 f args H R' :=
  ⟨h.1, fun φ W ys hI hv => (h.2 φ W ys hI hv).mono fun e W' ⟨y, v, H', φ', h1, h2, h3, h4, h5⟩ => ⟨y, v, H', φ', h1, h2, h3, h4, k v H' h5⟩⟩

theorem aop_mono {op : Op} {e : Env} {H : AH} {K K' : AV → AH → Prop} (hk : ∀ v H', K v H' → K' v H') (h : aop P W0 op e H K) : aop P W0 op e H K' := by
  cases op with
  | store t a x =>
    simp only [aop] at *
    split at h
    · exact astore_mono hk h
    · exact h
  | slice t x lo hi mx =>
    simp only [aop] at *
    split at h
    · exact ⟨h.1, aslice_mono hk h.2⟩
    · split at h
      · exact aslice_mono hk h
      · exact h
    · exact h
  | call c =>
    simp only [aop] at *
    split at h
    · exact abuiltin_mono hk h
    · split at h
      · exact ACalls.mono h hk
      · exact h
    · exact h
  | binOp op t x y c =>
    simp only [aop] at *
    split at h
    · split at h <;> first | exact hk _ _ h | exact h
    · split at h
      · exact hk _ _ h
      · split at h <;> first | exact ⟨h.1, hk _ _ h.2⟩ | exact h
    · split at h <;> first | exact ⟨h.1, hk _ _ h.2⟩ | exact h
    · split at h
      · obtain ⟨xs, ys, r, h1, h2, h3, h4⟩ := h
        exact ⟨xs, ys, r, h1, h2, h3, hk _ _ h4⟩
      · obtain ⟨xs, ys, r, h1, h2, h3, h4⟩ := h
        exact ⟨xs, ys, r, h1, h2, h3, hk _ _ h4⟩
      · exact h
    · exact h
  | index t x ix =>
    simp only [aop] at *
    split at h
    · obtain ⟨h1, h2, b, h3, h4⟩ := h
      exact ⟨h1, h2, b, h3, hk _ _ h4⟩
    · split at h
      · split at h
        · exact ⟨h.1, h.2.1, h.2.2.1, h.2.2.2.1, hk _ _ h.2.2.2.2⟩
        · exact h
      · exact h
    · exact h
  | move x => exact hk _ _ h
  | assign x => exact hk _ _ h
  | pick c a b => simp only [aop] at *; split at h <;> first | exact hk _ _ h | exact h
  | alloc t => simp only [aop] at *; split at h <;> first | exact hk _ _ h | exact h
  | box t x => simp only [aop] at *; split at h <;> first | exact hk _ _ h | exact h
  | build t parts =>
    simp only [aop] at *
    split at h
    · split at h <;> first | exact hk _ _ h | exact h
    · split at h
      · split at h <;> first | exact hk _ _ h | exact h
      · exact h
    · exact h
  | buildSlice t len parts =>
    simp only [aop] at *
    split at h
    · refine ⟨h.1, h.2.1, ?_⟩
      have h2 := h.2.2
      split at h2 <;> first | exact hk _ _ h2 | exact h2
    · exact h
  | load t a =>
    simp only [aop] at *
    split at h
    · refine ⟨h.1, ?_⟩
      have h2 := h.2
      split at h2 <;> first | exact hk _ _ h2 | exact h2
    · exact h
  | nilCheck x => simp only [aop] at *; split at h <;> first | exact hk _ _ h | exact h
  | unOp op t x =>
    simp only [aop] at *
    split at h
    · split at h <;> first | exact hk _ _ h | exact h
    · exact h
  | convert s d x =>
    simp only [aop] at *
    split at h
    · split at h <;> first | exact hk _ _ h | exact h
    · split at h
      · rename_i hc; rw [if_pos hc]; exact hk _ _ h
      · exact h.elim
    · split at h
      · refine ⟨h.1, ?_⟩
        have h2 := h.2
        split at h2 <;> first | exact hk _ _ h2 | exact h2
      · exact h
    · split at h <;> first | exact ⟨h.1, hk _ _ h.2⟩ | exact h
    · exact h
  | makeFunc f first caps => simp only [aop] at *; split at h <;> first | exact ⟨h.1, hk _ _ h.2⟩ | exact h
  | makeSlice t l c =>
    simp only [aop] at *
    split at h
    · exact ⟨h.1, h.2.1, h.2.2.1, h.2.2.2.1, h.2.2.2.2.1, hk _ _ h.2.2.2.2.2⟩
    · exact h
  | fieldAddr t x f =>
    simp only [aop] at *
    split at h
    · split at h <;> first | exact ⟨h.1, hk _ _ h.2⟩ | exact h
    · exact h
  | field t x f =>
    simp only [aop] at *
    split at h
    · split at h <;> first | exact ⟨h.1, h.2.1, hk _ _ h.2.2⟩ | exact h
    · exact h
  | indexAddr t x ix =>
    simp only [aop] at *
    split at h
    · split at h <;> first | exact ⟨h.1, h.2.1, hk _ _ h.2.2⟩ | exact h
    · split at h
      · exact ⟨h.1, h.2.1, h.2.2.1, hk _ _ h.2.2.2⟩
      · exact ⟨h.1, h.2.1, hk _ _ h.2.2⟩
      · exact h
  | extract x i =>
    simp only [aop] at *
    split at h
    · split at h <;> first | exact hk _ _ h | exact h
    · exact h
  | _ => exact h.elim

/-- An operation that changes no memory. -/
def quietOp : Op → Bool
  | .move _ | .assign _ | .pick .. | .build .. | .load .. | .nilCheck _ | .binOp .. | .unOp .. | .convert .. | .makeFunc .. | .slice .. | .fieldAddr .. | .field .. | .indexAddr .. | .index .. | .extract .. => true
  | .call c => match c.callee with
    | .builtin .len => true
    | .builtin .min => true
    | .builtin .max => true
    | _ => false
  | _ => false
/-- What a quiet operation computes. -/
theorem quiet_det {op : Op} (hq : quietOp op = true) {e : Env} {H : AH} {K : AV → AH → Prop} (h : aop P W0 op e H K) : ∃ v, K v H ∧ ∀ K' : AV → AH → Prop, K' v H → aop P W0 op e H K' := by
  cases op with
  | slice t x lo hi mx =>
    have key : ∀ {s : Nat} {x : AV} {lo hi : Option AV}, aslice W0 H s x lo hi K → ∃ v, K v H ∧ ∀ K' : AV → AH → Prop, K' v H → aslice W0 H s x lo hi K' := by
      intro s x lo hi h
      unfold aslice at *
      split at h
      · split at h
        · exact ⟨_, h.2.2.2, fun _ k => ⟨h.1, h.2.1, h.2.2.1, k⟩⟩
        · exact h.elim
      · split at h
        · split at h
          · exact ⟨_, h.2.2.2.2, fun _ k => ⟨h.1, h.2.1, h.2.2.1, h.2.2.2.1, k⟩⟩
          · exact h.elim
        · exact h.elim
      · split at h
        · exact ⟨_, h.2.2.2.2, fun _ k => ⟨h.1, h.2.1, h.2.2.1, h.2.2.2.1, k⟩⟩
        · exact h.elim
      · exact h.elim
    simp only [aop] at *
    split at h
    · obtain ⟨v, h1, h2⟩ := key h.2
      exact ⟨v, h1, fun K' k => ⟨h.1, h2 K' k⟩⟩
    · split at h
      · exact key h
      · exact h.elim
    · exact h.elim
  | call c =>
    simp only [aop] at *
    split at h
    · rename_i b hb
      simp only [quietOp, hb] at hq
      unfold abuiltin at *
      split at h
      · exact ⟨_, h.2, fun _ k => ⟨h.1, k⟩⟩
      · have h2 := h.2
        split at h2
        · exact ⟨_, h2, fun _ k => ⟨h.1, k⟩⟩
        · exact h2.elim
      · simp at hq
      · exact ⟨_, h, fun _ k => k⟩
      · exact ⟨_, h, fun _ k => k⟩
      · simp at hq
      · exact h.elim
    · rename_i f hf
      simp [quietOp, hf] at hq
    · exact h.elim
  | binOp op t x y c =>
    simp only [aop] at *
    split at h
    · split at h <;> first | exact ⟨_, h, fun _ k => k⟩ | exact h.elim
    · split at h
      · exact ⟨_, h, fun _ k => k⟩
      · split at h <;> first | exact ⟨_, h.2, fun _ k => ⟨h.1, k⟩⟩ | exact h.elim
    · split at h <;> first | exact ⟨_, h.2, fun _ k => ⟨h.1, k⟩⟩ | exact h.elim
    · split at h
      · obtain ⟨xs, ys, r, h1, h2, h3, h4⟩ := h
        exact ⟨_, h4, fun _ k => ⟨xs, ys, r, h1, h2, h3, k⟩⟩
      · obtain ⟨xs, ys, r, h1, h2, h3, h4⟩ := h
        exact ⟨_, h4, fun _ k => ⟨xs, ys, r, h1, h2, h3, k⟩⟩
      · exact h.elim
    · exact h.elim
  | index t x ix =>
    simp only [aop] at *
    split at h
    · obtain ⟨h1, h2, b, h3, h4⟩ := h
      exact ⟨_, h4, fun _ k => ⟨h1, h2, b, h3, k⟩⟩
    · split at h
      · split at h
        · exact ⟨_, h.2.2.2.2, fun _ k => ⟨h.1, h.2.1, h.2.2.1, h.2.2.2.1, k⟩⟩
        · exact h.elim
      · exact h.elim
    · exact h.elim
  | move x => exact ⟨_, h, fun _ k => k⟩
  | assign x => exact ⟨_, h, fun _ k => k⟩
  | pick c a b => simp only [aop] at *; split at h <;> first | exact ⟨_, h, fun _ k => k⟩ | exact h.elim
  | build t parts =>
    simp only [aop] at *
    split at h
    · split at h <;> first | exact ⟨_, h, fun _ k => k⟩ | exact h.elim
    · split at h
      · split at h <;> first | exact ⟨_, h, fun _ k => k⟩ | exact h.elim
      · exact h.elim
    · exact h.elim
  | load t a =>
    simp only [aop] at *
    split at h
    · have h2 := h.2
      split at h2
      · exact ⟨_, h2, fun _ k => ⟨h.1, k⟩⟩
      · exact h2.elim
    · exact h.elim
  | nilCheck x => simp only [aop] at *; split at h <;> first | exact ⟨_, h, fun _ k => k⟩ | exact h.elim
  | unOp op t x =>
    simp only [aop] at *
    split at h
    · split at h <;> first | exact ⟨_, h, fun _ k => k⟩ | exact h.elim
    · exact h.elim
  | convert s d x =>
    simp only [aop] at *
    split at h
    · split at h <;> first | exact ⟨_, h, fun _ k => k⟩ | exact h.elim
    · split at h
      · rename_i hc; exact ⟨_, h, fun _ k => by rw [if_pos hc]; exact k⟩
      · exact h.elim
    · split at h
      · have h2 := h.2
        split at h2
        · exact ⟨_, h2, fun _ k => ⟨h.1, k⟩⟩
        · exact h2.elim
      · exact h.elim
    · split at h <;> first | exact ⟨_, h.2, fun _ k => ⟨h.1, k⟩⟩ | exact h.elim
    · exact h.elim
  | makeFunc f first caps => simp only [aop] at *; split at h <;> first | exact ⟨_, h.2, fun _ k => ⟨h.1, k⟩⟩ | exact h.elim
  | fieldAddr t x f =>
    simp only [aop] at *
    split at h
    · split at h <;> first | exact ⟨_, h.2, fun _ k => ⟨h.1, k⟩⟩ | exact h.elim
    · exact h.elim
  | field t x f =>
    simp only [aop] at *
    split at h
    · split at h <;> first | exact ⟨_, h.2.2, fun _ k => ⟨h.1, h.2.1, k⟩⟩ | exact h.elim
    · exact h.elim
  | indexAddr t x ix =>
    simp only [aop] at *
    split at h
    · split at h <;> first | exact ⟨_, h.2.2, fun _ k => ⟨h.1, h.2.1, k⟩⟩ | exact h.elim
    · split at h
      · exact ⟨_, h.2.2.2, fun _ k => ⟨h.1, h.2.1, h.2.2.1, k⟩⟩
      · exact ⟨_, h.2.2, fun _ k => ⟨h.1, h.2.1, k⟩⟩
      · exact h.elim
  | extract x i =>
    simp only [aop] at *
    split at h
    · split at h <;> first | exact ⟨_, h, fun _ k => k⟩ | exact h.elim
    · exact h.elim
  | _ => simp [quietOp] at hq
/-! ### Orders -/
def tmpsOf (op : Op) : List Nat := op.operands.toList.filterMap fun | .tmp t => some t | _ => none
def gtOf (all : Array Oper) (o : Oper) : List Nat := match o.guard with | some (j, _) => (gtmp all j).toList | none => []
def looks (all : Array Oper) (o : Oper) : List Nat := tmpsOf o.op ++ gtOf all o
def raw1 (P : Program) (W0 : World) (all : Array Oper) (o : Oper) (e : Env) (H : AH) (R : AV → AH → Prop) : Prop := match want1 all e o with
  | some true => aop P W0 o.op e H R
  | some false => R (.v undef) H
  | none => False
def quietO (o : Oper) : Bool := quietOp o.op
variable {all : Array Oper}
theorem raw1_mono {o : Oper} {e : Env} {H : AH} {R R' : AV → AH → Prop} (hk : ∀ v H', R v H' → R' v H') (h : raw1 P W0 all o e H R) : raw1 P W0 all o e H R' := by
  unfold raw1 at *
  split
  · rename_i hw; rw [hw] at h; exact aop_mono hk h
  · rename_i hw; rw [hw] at h; exact hk _ _ h
  · rename_i hw; rw [hw] at h; exact h
theorem raw1_congr {o : Oper} {e e' : Env} {H : AH} {R : AV → AH → Prop} (he : ∀ t ∈ looks all o, e t = e' t) (h : raw1 P W0 all o e H R) : raw1 P W0 all o e' H R := by
  have hw : want1 all e o = want1 all e' o := by
    unfold want1
    cases hg : o.guard with
    | none => rfl
    | some g =>
      obtain ⟨j, w⟩ := g
      simp only
      cases ht : gtmp all j with
      | none => rfl
      | some t =>
        simp only
        rw [he t (by simp [looks, gtOf, hg, ht])]
  have ho : ∀ x ∈ o.op.operands.toList, ev e x = ev e' x := by
    intro x hx
    cases x with
    | tmp t => exact he t (by simp only [looks, tmpsOf, List.mem_append, List.mem_filterMap]; exact .inl ⟨_, hx, rfl⟩)
    | _ => rfl
  unfold raw1 at *
  rw [← hw]
  split
  · rename_i hw2; rw [hw2] at h; simp only at h; rwa [aop_congr ho] at h
  · rename_i hw2; rw [hw2] at h; exact h
  · rename_i hw2; rw [hw2] at h; exact h
theorem raw1_det {o : Oper} (hq : quietO o = true) {e : Env} {H : AH} {R : AV → AH → Prop} (h : raw1 P W0 all o e H R) : ∃ v, R v H ∧ ∀ R' : AV → AH → Prop, R' v H → raw1 P W0 all o e H R' := by
  unfold raw1 at *
  split at h
  · obtain ⟨v, h1, h2⟩ := quiet_det hq h
    exact ⟨v, h1, h2⟩
  · exact ⟨_, h, fun _ k => k⟩
  · exact h.elim

def dIn (d : Option Nat) (l : List Nat) : Bool := match d with | some t => l.contains t | none => false
theorem putA_at {d : Option Nat} {l : List Nat} (h : dIn d l = false) (v : AV) (e : Env) : ∀ t ∈ l, putA d v e t = e t := by
  intro t ht
  cases d with
  | none => rfl
  | some u =>
    simp only [putA, upd]
    rw [if_neg]
    rintro rfl
    simp [dIn, ht] at h
theorem putA_comm {d d' : Option Nat} (h : dIn d d'.toList = false) (v v' : AV) (e : Env) : putA d v (putA d' v' e) = putA d' v' (putA d v e) := by
  cases d with
  | none => rfl
  | some u =>
    cases d' with
    | none => rfl
    | some u' =>
      have : u ≠ u' := by simpa [dIn] using h
      funext t
      simp only [putA, upd]
      by_cases h1 : t = u
      · subst h1
        rw [if_pos rfl, if_neg this, if_pos rfl]
      · rw [if_neg h1, if_neg h1]
def indep (all : Array Oper) (a b : Oper) : Bool := !dIn a.dst (looks all b) && !dIn b.dst (looks all a) && !dIn b.dst a.dst.toList && !dIn a.dst (looks all a)
/-- b, that comes later, writes nothing that a reads or writes. -/
def noanti (all : Array Oper) (a b : Oper) : Bool := !dIn b.dst (looks all a) && !dIn b.dst a.dst.toList
def recheck (P : Program) (W0 : World) (all : Array Oper) (o : Oper) (e : Env) (H : AH) : Prop := raw1 P W0 all o e H fun v H' => H' = H ∧ ∀ t, o.dst = some t → v = e t
def stable (P : Program) (W0 : World) (all : Array Oper) (bef : Nat → Nat → Bool) (hist : List Nat) (i : Nat) (e : Env) (H : AH) : Prop := ∀ j ∈ hist, bef j i = false → ∀ o, all[j]? = some o → recheck P W0 all o e H
/-- The operations in one order; behind one that changes memory, those of before that might come behind it compute what they computed. -/
def wl (P : Program) (W0 : World) (all : Array Oper) (bef : Nat → Nat → Bool) (Q : Env → AH → Prop) : List Nat → List Nat → Env → AH → Prop
  | hist, [], e, H => Q e H
  | hist, i :: l, e, H => match all[i]? with
    | some o => if quietO o = true then raw1 P W0 all o e H fun v H' => wl P W0 all bef Q (i :: hist) l (putA o.dst v e) H'
      else raw1 P W0 all o e H fun v H' => stable P W0 all bef hist i (putA o.dst v e) H' ∧ wl P W0 all bef Q hist l (putA o.dst v e) H'
    | none => False
variable {bef : Nat → Nat → Bool} {Q : Env → AH → Prop}
theorem wl_hist : ∀ (l hist hist' : List Nat) (e : Env) (H : AH), (∀ j ∈ hist', j ∈ hist) → wl P W0 all bef Q hist l e H → wl P W0 all bef Q hist' l e H
  | [], _, _, _, _, _, h => h
  | i :: l, hist, hist', e, H, hs, h => by
    simp only [wl] at h ⊢
    split at h
    · split at h
      · rename_i hq
        rw [if_pos hq]
        exact raw1_mono (fun v H' hk => wl_hist l _ _ _ _ (fun j hj => (List.mem_cons.1 hj).elim (fun h => h ▸ List.mem_cons_self ..) fun hj => List.mem_cons_of_mem _ (hs j hj)) hk) h
      · rename_i hq
        rw [if_neg hq]
        exact raw1_mono (fun v H' hk => ⟨fun j hj => hk.1 j (hs j hj), wl_hist l _ _ _ _ hs hk.2⟩) h
    · exact h
/-- What a pending operation must be, for i to come first. -/
def Pend (all : Array Oper) (bef : Nat → Nat → Bool) (i : Nat) (oi : Oper) (j : Nat) : Prop := ∃ o, all[j]? = some o ∧ quietO o = true ∧ bef j i = false ∧ indep all o oi = true
def NA (all : Array Oper) (j k : Nat) : Prop := ∀ a b, all[j]? = some a → all[k]? = some b → noanti all a b = true
theorem move {i : Nat} {oi : Oper} (hi : all[i]? = some oi) : ∀ (l1 hist pend l2 : List Nat) (e : Env) (H : AH), (∀ j ∈ l1, Pend all bef i oi j) → (∀ j ∈ pend, j ∈ hist) → (∀ j ∈ pend, bef j i = false) → (quietO oi = false → l1.Pairwise (NA all) ∧ ∀ k ∈ pend, ∀ j ∈ l1, NA all k j) →
    wl P W0 all bef Q hist (l1 ++ i :: l2) e H → raw1 P W0 all oi e H fun v H' => (quietO oi = false → stable P W0 all bef pend i (putA oi.dst v e) H') ∧ wl P W0 all bef Q hist (l1 ++ l2) (putA oi.dst v e) H'
  | [], hist, pend, l2, e, H, hp, h1, h2, h3, h => by
    simp only [List.nil_append, wl, hi] at h
    split at h
    · rename_i hq
      exact raw1_mono (fun v H' hk => ⟨fun hn => absurd (hq.symm.trans hn) (by decide), wl_hist _ _ _ _ _ (fun j hj => List.mem_cons_of_mem _ hj) hk⟩) h
    · exact raw1_mono (fun v H' hk => ⟨fun _ j hj => hk.1 j (h1 j hj), hk.2⟩) h
  | j :: l1, hist, pend, l2, e, H, hp, h1, h2, h3, h => by
    obtain ⟨oj, hj, hq, hb, hind⟩ := hp j (List.mem_cons_self ..)
    simp only [List.cons_append, wl, hj, hq, if_true] at h
    obtain ⟨vj, hw, hre⟩ := raw1_det hq h
    simp only [indep, Bool.and_eq_true, Bool.not_eq_true'] at hind
    obtain ⟨⟨⟨i1, i2⟩, i3⟩, i4⟩ := hind
    have ih := move hi l1 (j :: hist) (j :: pend) l2 (putA oj.dst vj e) H (fun k hk => hp k (List.mem_cons_of_mem _ hk))
      (fun k hk => by rcases List.mem_cons.1 hk with rfl | hk; exact List.mem_cons_self ..; exact List.mem_cons_of_mem _ (h1 k hk))
      (fun k hk => by rcases List.mem_cons.1 hk with rfl | hk; exact hb; exact h2 k hk)
      (fun hn => by
        obtain ⟨g1, g2⟩ := h3 hn
        rw [List.pairwise_cons] at g1
        refine ⟨g1.2, fun k hk m hm => ?_⟩
        rcases List.mem_cons.1 hk with rfl | hk
        · exact g1.1 m hm
        · exact g2 k hk m (List.mem_cons_of_mem _ hm)) hw
    have ih2 := raw1_congr (e' := e) (fun t ht => putA_at i1 vj e t ht) ih
    have hcm : ∀ v, putA oi.dst v (putA oj.dst vj e) = putA oj.dst vj (putA oi.dst v e) := fun v => putA_comm i3 v vj e
    have step : ∀ v H', (quietO oi = true → H' = H) → ((quietO oi = false → stable P W0 all bef (j :: pend) i (putA oi.dst v (putA oj.dst vj e)) H') ∧ wl P W0 all bef Q (j :: hist) (l1 ++ l2) (putA oi.dst v (putA oj.dst vj e)) H') →
        (quietO oi = false → stable P W0 all bef pend i (putA oi.dst v e) H') ∧ wl P W0 all bef Q hist (j :: l1 ++ l2) (putA oi.dst v e) H' := by
      rintro v H' hH ⟨hA, hB⟩
      rw [hcm] at hA hB
      refine ⟨fun hn k hk hbk ok hok => ?_, ?_⟩
      · have hna := (h3 hn).2 k hk j (List.mem_cons_self ..) ok oj hok hj
        simp only [noanti, Bool.and_eq_true, Bool.not_eq_true'] at hna
        have := hA hn k (List.mem_cons_of_mem _ hk) hbk ok hok
        unfold recheck at *
        refine raw1_mono ?_ (raw1_congr (e' := putA oi.dst v e) (fun t ht => putA_at hna.1 vj _ t ht) this)
        rintro w H'' ⟨rfl, hw⟩
        refine ⟨rfl, fun t ht => ?_⟩
        rw [hw t ht]
        exact putA_at hna.2 vj _ t (by simp [ht])
      · simp only [List.cons_append, wl, hj, hq, if_true]
        cases hqi : quietO oi with
        | true =>
          have := hH hqi
          subst this
          exact raw1_congr (fun t ht => (putA_at i2 v e t ht).symm) (hre _ hB)
        | false =>
          have := hA hqi j (List.mem_cons_self ..) hb oj hj
          unfold recheck at this
          refine raw1_mono ?_ (raw1_congr (e' := putA oi.dst v e) (fun t ht => putA_at i4 vj _ t ht) this)
          rintro w H'' ⟨rfl, hw⟩
          have : putA oj.dst w (putA oi.dst v e) = putA oj.dst vj (putA oi.dst v e) := by
            cases hd : oj.dst with
            | none => rfl
            | some t =>
              rw [hw t hd, hd]
              simp [putA, upd]
          rw [this]
          exact hB
    by_cases hqi : quietO oi = true
    · obtain ⟨v, k1, k2⟩ := raw1_det hqi ih2
      exact k2 _ (step v H (fun _ => rfl) k1)
    · exact raw1_mono (fun v H' hk => step v H' (fun hn => absurd hn hqi) hk) ih2

/-! ### What comes ahead of what -/
inductive Reach (all : Array Oper) : Nat → Nat → Prop
  | one {i : Nat} {o : Oper} {ed : Edge} : all[i]? = some o → ed ∈ o.after → Region.binds .any ed = true → Reach all i ed.on
  | step {i j : Nat} {o : Oper} {ed : Edge} : all[i]? = some o → ed ∈ o.after → Region.binds .any ed = true → Reach all ed.on j → Reach all i j
def maskOf (ms : List Nat) (es : List Edge) : Nat := es.foldl (fun m ed => if Region.binds .any ed = true then m ||| (1 <<< ed.on) ||| ms.getD ed.on 0 else m) 0
def masks : List Oper → List Nat → List Nat
  | [], ms => ms
  | o :: os, ms => masks os (ms ++ [maskOf ms o.after.toList])
theorem maskOf_bit (ms : List Nat) (j : Nat) : ∀ (es : List Edge) (m : Nat), (es.foldl (fun m ed => if Region.binds .any ed = true then m ||| (1 <<< ed.on) ||| ms.getD ed.on 0 else m) m).testBit j = true →
    m.testBit j = true ∨ ∃ ed ∈ es, Region.binds .any ed = true ∧ (ed.on = j ∨ (ms.getD ed.on 0).testBit j = true)
  | [], m, h => .inl h
  | ed :: es, m, h => by
    rw [List.foldl_cons] at h
    rcases maskOf_bit ms j es _ h with h | ⟨d, hd, h1, h2⟩
    · split at h
      · rename_i hb
        simp only [Nat.testBit_or, Bool.or_eq_true] at h
        rcases h with (h | h) | h
        · exact .inl h
        · refine .inr ⟨ed, List.mem_cons_self .., hb, .inl ?_⟩
          rw [Nat.one_shiftLeft, Nat.testBit_two_pow] at h
          simpa using h
        · exact .inr ⟨ed, List.mem_cons_self .., hb, .inr h⟩
      · exact .inl h
    · exact .inr ⟨d, List.mem_cons_of_mem _ hd, h1, h2⟩
def GoodMs (all : Array Oper) (ms : List Nat) : Prop := ∀ k j, (ms.getD k 0).testBit j = true → Reach all k j
theorem masks_good : ∀ (os : List Oper) (ms : List Nat), (∀ k, os[k]? = all[ms.length + k]?) → GoodMs all ms → GoodMs all (masks os ms)
  | [], ms, _, h => h
  | o :: os, ms, ho, h => by
    refine masks_good os (ms ++ [maskOf ms o.after.toList]) (fun k => ?_) ?_
    · have := ho (k + 1)
      simp only [List.getElem?_cons_succ] at this
      rw [this, List.length_append, List.length_singleton]
      congr 1; omega
    · intro k j hk
      rw [List.getD_eq_getElem?_getD, List.getElem?_append] at hk
      split at hk
      · exact h k j (by rw [List.getD_eq_getElem?_getD]; exact hk)
      · rename_i hlt
        cases hkk : k - ms.length with
        | zero =>
          have : k = ms.length := by omega
          subst this
          rw [Nat.sub_self] at hk
          simp only [List.getElem?_cons_zero, Option.getD_some] at hk
          have h0 := ho 0
          simp only [List.getElem?_cons_zero, Nat.add_zero] at h0
          rcases maskOf_bit ms j _ 0 hk with hz | ⟨ed, h1, h2, h3⟩
          · simp at hz
          · rcases h3 with rfl | h3
            · exact .one h0.symm (by simpa using h1) h2
            · exact .step h0.symm (by simpa using h1) h2 (h _ _ h3)
        | succ n => rw [hkk] at hk; simp at hk
def befOf (ops : Array Oper) : Nat → Nat → Bool := let ms := masks ops.toList []; fun j i => (ms.getD i 0).testBit j
theorem befOf_reach {ops : Array Oper} {j i : Nat} (h : befOf ops j i = true) : Reach ops i j :=
  masks_good (all := ops) ops.toList [] (fun k => by simp) (fun k j hk => by simp at hk) i j h
def Closed (all : Array Oper) (L : Nat → Bool) : Prop := ∀ i, L i = true → ∀ o, all[i]? = some o → ∀ ed ∈ o.after, Region.binds .any ed = true → L ed.on = true
theorem Closed.reach {L : Nat → Bool} (hc : Closed all L) {i j : Nat} (h : Reach all i j) : (∀ o, all[i]? = some o → ∀ ed ∈ o.after, Region.binds .any ed = true → L ed.on = true) → L j = true := by
  induction h with
  | one ho he hb => intro hd; exact hd _ ho _ he hb
  | step ho he hb _ ih => intro hd; exact ih (hc _ (hd _ ho _ he hb))
/-! ### Every order -/
def getO (all : Array Oper) (i : Nat) : Oper := all.getD i default
def dirTo (o : Oper) (d : Nat) : Bool := o.after.any fun ed => Region.binds .any ed && ed.on == d
def pw (f : Nat → Nat → Bool) : List Nat → Bool
  | [] => true
  | i :: l => l.all (f i) && pw f l
theorem pw_ok {f : Nat → Nat → Bool} : {l : List Nat} → pw f l = true → l.Pairwise fun a b => f a b = true
  | [], _ => .nil
  | i :: l, h => by
    simp only [pw, Bool.and_eq_true, List.all_eq_true] at h
    exact .cons h.1 (pw_ok h.2)
def pairOk (all : Array Oper) (bef : Nat → Nat → Bool) (j i : Nat) : Bool := !bef i j && !dirTo (getO all j) i && (bef j i || (quietO (getO all j) && indep all (getO all j) (getO all i))) && j != i
def tripOk (all : Array Oper) (bef : Nat → Nat → Bool) (i j k : Nat) : Bool := bef j i || bef k i || bef i k || noanti all (getO all j) (getO all k)
/-- An order of the operations by which all others go. -/
def okDraw (all : Array Oper) (ord : List Nat) : Bool :=
  let bef := befOf all
  (List.range all.size).all (fun i => ord.contains i) && ord.all (fun i => i < all.size && !dirTo (getO all i) i && (getO all i).after.all fun ed => !Region.binds .any ed || ed.on < all.size) && pw (pairOk all bef) ord &&
  ord.all fun i => quietO (getO all i) || pw (tripOk all bef i) ord
theorem getO_eq {i : Nat} {o : Oper} (h : all[i]? = some o) : getO all i = o := by simp [getO, h]
def awpAny (P : Program) (W0 : World) (all : Array Oper) (Q : Env → AH → Prop) : Nat → Array Bool → Env → AH → Prop
  | 0, listed, e, H => Region.ready .any all listed = [] ∧ Q e H
  | f + 1, listed, e, H => (Region.ready .any all listed = [] → Q e H) ∧ ∀ i ∈ Region.ready .any all listed, ∃ o, all[i]? = some o ∧ raw1 P W0 all o e H fun v H' => awpAny P W0 all Q f (listed.setIfInBounds i true) (putA o.dst v e) H'
theorem listed_set {listed : Array Bool} {i j : Nat} {d : Bool} (hi : i < listed.size) : (listed.setIfInBounds i true).getD j d = if j = i then true else listed.getD j d := by
  by_cases h : j = i
  · subst h; simp [hi]
  · rw [if_neg h]
    simp [Array.getElem?_setIfInBounds, Ne.symm h]
theorem wl_any {ord : List Nat} (hok : okDraw all ord = true) : ∀ (fuel : Nat) (listed : Array Bool) (l : List Nat) (e : Env) (H : AH), l.Sublist ord → l.length = fuel → listed.size = all.size → (∀ i, i < all.size → (listed.getD i true = false ↔ i ∈ l)) →
    Closed all (fun i => listed.getD i false) → wl P W0 all (befOf all) Q [] l e H → awpAny P W0 all Q fuel listed e H := by
  simp only [okDraw, Bool.and_eq_true] at hok
  obtain ⟨⟨⟨c1, c2⟩, c3⟩, c4⟩ := hok
  have c3 := pw_ok c3
  simp only [List.all_eq_true, Bool.and_eq_true, decide_eq_true_eq] at c2
  simp only [List.all_eq_true, Bool.or_eq_true] at c4
  intro fuel
  induction fuel with
  | zero =>
    intro listed l e H hs hl hz hm hc h
    have : l = [] := List.eq_nil_of_length_eq_zero hl
    subst this
    refine ⟨?_, h⟩
    rw [List.eq_nil_iff_forall_not_mem]
    intro i hi
    obtain ⟨h1, o, h2, _⟩ := mem_ready.1 hi
    have := (hm i (Array.getElem?_eq_some_iff.1 h2).1).1 h1
    cases this
  | succ fuel ih =>
    intro listed l e H hs hl hz hm hc h
    have inb : ∀ j, listed.getD j true = false → j < all.size := by
      intro j hj
      rcases Nat.lt_or_ge j listed.size with h | h
      · omega
      · rw [Array.getD_eq_getD_getElem?, Array.getElem?_eq_none h] at hj; cases hj
    have tt : ∀ j, j < all.size → j ∉ l → listed.getD j false = true := by
      intro j hj hn
      have h1 : ¬ listed.getD j true = false := fun hh => hn ((hm j hj).1 hh)
      have h2 : j < listed.size := by omega
      simp only [Array.getD_eq_getD_getElem?, Array.getElem?_eq_getElem h2, Option.getD_some] at h1 ⊢
      simpa using h1
    have ff : ∀ j ∈ l, ¬ listed.getD j false = true := by
      intro j hj
      have hjs := (c2 j (hs.subset hj)).1.1
      have h1 := (hm j hjs).2 hj
      have h2 : j < listed.size := by omega
      simp only [Array.getD_eq_getD_getElem?, Array.getElem?_eq_getElem h2, Option.getD_some] at h1 ⊢
      rw [h1]; decide
    have c3l := c3.sublist hs
    refine ⟨fun hnil => ?_, fun i hi => ?_⟩
    · cases l with
      | nil => simp at hl
      | cons i l =>
        exfalso
        have hi := c2 i (hs.subset (List.mem_cons_self ..))
        obtain ⟨⟨hi1, hi2⟩, hi3⟩ := hi
        have hg : all[i]? = some (getO all i) := by rw [Array.getElem?_eq_getElem hi1]; simp [getO, hi1]
        have : i ∈ Region.ready .any all listed := by
          refine mem_ready.2 ⟨(hm i hi1).2 (List.mem_cons_self ..), getO all i, hg, fun ed he hb => ?_⟩
          have h3 := Array.all_eq_true_iff_forall_mem.1 hi3 ed he
          rw [hb] at h3
          have h3 : ed.on < all.size := by simpa using h3
          refine tt _ h3 fun hmem => ?_
          have hd : dirTo (getO all i) ed.on = true := by
            obtain ⟨n, hn, rfl⟩ := Array.mem_iff_getElem.1 he
            simp only [dirTo, Array.any_eq_true]
            exact ⟨n, hn, by simp [hb]⟩
          rcases List.mem_cons.1 hmem with heq | hmem
          · rw [heq] at hd
            rw [hd] at hi2; cases hi2
          · have := (List.pairwise_cons.1 c3l).1 _ hmem
            simp only [pairOk, hd, Bool.not_true, Bool.and_false, Bool.false_and] at this
            cases this
        rw [hnil] at this
        cases this
    · obtain ⟨h1, oi, h2, h3⟩ := mem_ready.1 hi
      have hil := (hm i (inb i h1)).1 h1
      obtain ⟨l1, l2, rfl⟩ := List.append_of_mem hil
      have hoi := getO_eq h2
      rw [List.pairwise_append] at c3l
      obtain ⟨q1, q2, q3⟩ := c3l
      have pr : ∀ j ∈ l1, pairOk all (befOf all) j i = true := fun j hj => q3 j hj i (List.mem_cons_self ..)
      have notbef : ∀ j ∈ l1, befOf all j i = false := by
        intro j hj
        cases hb : befOf all j i with
        | false => rfl
        | true =>
          have := hc.reach (befOf_reach hb) (fun o ho ed he hbn => by rw [h2] at ho; injection ho with ho; subst ho; exact h3 ed he hbn)
          exact absurd this (ff j (List.mem_append_left _ hj))
      have bound : ∀ j ∈ l1, j < all.size := fun j hj => (c2 j (hs.subset (List.mem_append_left _ hj))).1.1
      have getg : ∀ j ∈ l1, all[j]? = some (getO all j) := fun j hj => by rw [Array.getElem?_eq_getElem (bound j hj)]; simp [getO, bound j hj]
      have hmv := move (Q := Q) (bef := befOf all) h2 l1 [] [] l2 e H ?_ (fun _ h => by cases h) (fun _ h => by cases h) ?_ h
      · refine ⟨oi, h2, raw1_mono (fun v H' hk => ih (listed.setIfInBounds i true) (l1 ++ l2) _ _ ?_ ?_ ?_ ?_ ?_ hk.2) hmv⟩
        · exact List.Sublist.trans ((List.Sublist.refl l1).append (List.sublist_cons_self _ _)) hs
        · simp only [List.length_append, List.length_cons] at hl ⊢; omega
        · simp [hz]
        · intro m hmz
          rw [listed_set (by have := inb i h1; omega)]
          split
          · rename_i hmi
            subst hmi
            simp only [Bool.true_eq_false, false_iff, List.mem_append, not_or]
            constructor
            · intro hml
              have := pr m hml
              simp [pairOk] at this
            · intro hml
              have := (List.pairwise_cons.1 q2).1 m hml
              simp [pairOk] at this
          · rename_i hmi
            rw [hm m hmz]
            simp only [List.mem_append, List.mem_cons, hmi, false_or]
        · intro m hmt o ho ed he hb
          simp only at hmt ⊢
          rw [listed_set (by have := inb i h1; omega)] at hmt ⊢
          split
          · rfl
          · split at hmt
            · rename_i hmi
              subst hmi
              rw [h2] at ho; injection ho with ho; subst ho
              exact h3 ed he hb
            · exact hc m hmt o ho ed he hb
      · intro j hj
        have hp := pr j hj
        simp only [pairOk, notbef j hj, Bool.false_or, Bool.and_eq_true] at hp
        refine ⟨getO all j, getg j hj, hp.1.2.1, notbef j hj, ?_⟩
        rw [hoi] at hp
        exact hp.1.2.2
      · intro hn
        refine ⟨?_, fun _ h => by cases h⟩
        have hq := (c4 i (hs.subset hil)).resolve_left (by rw [hoi, hn]; decide)
        have hq := (pw_ok hq).sublist hs
        rw [List.pairwise_append] at hq
        refine hq.1.imp_of_mem ?_
        intro j k hj hk ht a b ha hb
        have hp := pr k hk
        simp only [pairOk, Bool.and_eq_true, Bool.not_eq_true'] at hp
        simp only [tripOk, notbef j hj, notbef k hk, hp.1.1.1, Bool.false_or] at ht
        rw [getO_eq ha, getO_eq hb] at ht
        exact ht
/-- A region whose order is drawn: one order by which the others go. -/
def adraw (P : Program) (W0 : World) (ops : Array Oper) (Q : Env → AH → Prop) (e : Env) (H : AH) : Prop :=
  P.follows .mixedOrders = true ∧ ∃ ord : List Nat, okDraw ops ord = true ∧ ord.length = ops.size ∧ wl P W0 ops (befOf ops) Q [] ord e H
theorem adraw_any {ops : Array Oper} {e : Env} {H : AH} (h : adraw P W0 ops Q e H) : P.follows .mixedOrders = true ∧ awpAny P W0 ops Q ops.size (Array.replicate ops.size false) e H := by
  obtain ⟨hf, ord, hok, hl, h⟩ := h
  refine ⟨hf, wl_any hok ops.size _ ord e H (List.Sublist.refl _) hl (by simp) ?_ ?_ h⟩
  · intro i hi
    simp only [okDraw, Bool.and_eq_true, List.all_eq_true, List.mem_range] at hok
    have := hok.1.1.1 i hi
    simp only [Array.getD_eq_getD_getElem?, Array.getElem?_replicate, hi, if_true, Option.getD_some, true_iff]
    simpa using this
  · intro i hi
    simp only [Array.getD_eq_getD_getElem?, Array.getElem?_replicate] at hi
    split at hi <;> cases hi
end Go.Proofs.Ytficaacenneniaa.Aw
