/- The calculus 'Aw', part 8a: regions whose order is drawn. -/
import Derived.Test.YthcjolappblieaaAw7
import Derived.Orders
namespace Go.Proofs.Ythcjolappblieaa.Aw
open Go Go.RowKit
set_option linter.unusedVariables false
set_option linter.unusedSimpArgs false
set_option linter.unusedSectionVars false
variable {P : Program} {W0 : World}

def putA (d : Option Nat) (v : AV) (e : Env) : Env := match d with | some t => upd e t v | none => e
/-- The temporary that a guard looks at. -/
def gtmp (all : Array Oper) (j : Nat) : Option Nat := (all[j]?).bind (·.dst)
def want1 (all : Array Oper) (e : Env) (o : Oper) : Option Bool := match o.guard with
  | none => some true
  | some (j, w) => match gtmp all j with
    | some t => match e t with
      | .v (.bool b) => some (b == w)
      | .v (.tuple _) => some false
      | _ => none
    | none => none
/-- One operation, with its guard. -/
def aop1 (P : Program) (W0 : World) (all : Array Oper) (o : Oper) (K : Env → AH → Prop) (e : Env) (H : AH) : Prop := match want1 all e o with
  | some true => aop P W0 o.op e H fun v H' => K (putA o.dst v e) H'
  | some false => K (putA o.dst (.v undef) e) H
  | none => False

theorem aop_congr {op : Op} {e e' : Env} {H : AH} {K : AV → AH → Prop} (h : ∀ x ∈ op.operands.toList, ev e x = ev e' x) : aop P W0 op e H K = aop P W0 op e' H K := by
  cases op with
  | build t parts =>
    have : (parts.toList.map fun p => (p.1, ev e p.2)) = parts.toList.map fun p => (p.1, ev e' p.2) := List.map_congr_left fun p hp => by rw [h p.2 (by simp [Op.operands]; exact ⟨p.1, by simpa using hp⟩)]
    simp only [aop, this]
  | buildSlice t len parts =>
    have : (parts.toList.map fun p => (p.1, ev e p.2)) = parts.toList.map fun p => (p.1, ev e' p.2) := List.map_congr_left fun p hp => by rw [h p.2 (by simp [Op.operands]; exact ⟨p.1, by simpa using hp⟩)]
    simp only [aop, this]
  | makeFunc f first caps =>
    have : caps.toList.map (ev e) = caps.toList.map (ev e') := List.map_congr_left fun p hp => h p (by simp [Op.operands]; exact .inr (by simpa using hp))
    simp only [aop, this]
  | call c =>
    have h1 : c.args.toList.map (ev e) = c.args.toList.map (ev e') := List.map_congr_left fun p hp => h p (by simp [Op.operands, Call.operands]; exact .inr (by simpa using hp))
    cases hc : c.callee with
    | value f =>
      have h2 : ev e f = ev e' f := h f (by simp [Op.operands, Call.operands, hc])
      simp only [aop, hc, h1, h2]
    | _ => simp only [aop, hc, h1]
  | slice t x lo hi mx =>
    have h0 : ev e x = ev e' x := h x (by simp [Op.operands])
    have h1 : lo.map (ev e) = lo.map (ev e') := by
      cases lo with
      | none => rfl
      | some l => simp [h l (by simp [Op.operands])]
    have h2 : hi.map (ev e) = hi.map (ev e') := by
      cases hi with
      | none => rfl
      | some l => simp [h l (by simp [Op.operands])]
    cases mx with
    | none =>
      simp only [aop, h0, h1, h2]
      generalize ev e' x = u
      cases u with
      | v y => cases y <;> rfl
      | _ => rfl
    | some m => simp only [aop, h0, h1, h2, h m (by simp [Op.operands])]
  | _ =>
    simp only [aop]
    try (simp only [Op.operands, List.mem_cons, List.not_mem_nil, or_false, forall_eq_or_imp, forall_eq] at h)
    try simp only [h]

theorem ite_mono {c : Prop} [Decidable c] {A A' B B' : Prop} (ha : A → A') (hb : B → B') : (if c then A else B) → if c then A' else B' := by
  split <;> assumption
theorem astore_mono {H : AH} {n b o : Nat} {x : AV} {K K' : AV → AH → Prop} (hk : ∀ v H', K v H' → K' v H') (h : astore H n b o x K) : astore H n b o x K' := by
  unfold astore at *
  split at h
  · exact ⟨h.1, h.2.1, h.2.2.1, hk _ _ h.2.2.2⟩
  · exact h
theorem aappend_mono {H : AH} {t : TypeId} {d s : AV} {K K' : AV → AH → Prop} (hk : ∀ v H', K v H' → K' v H') (h : aappend P W0 H t d s K) : aappend P W0 H t d s K' := by
  unfold aappend at *
  split at h
  case h_2 => exact h
  split at h
  case h_2 => exact h
  obtain ⟨h1, h2, h3, h4, h⟩ := h
  refine ⟨h1, h2, h3, h4, ?_⟩
  split at h
  · refine ⟨h.1, ?_⟩
    have h5 := h.2
    split at h5
    · rename_i hm; rw [if_pos hm]; exact hk _ _ h5
    · rename_i hm; rw [if_neg hm]; exact hk _ _ h5
  · refine ⟨h.1, ?_⟩
    have h5 := h.2
    split at h5
    · rename_i hm; rw [if_pos hm]; exact hk _ _ h5
    · rename_i hm; rw [if_neg hm]; exact hk _ _ h5
  · split at h
    · refine ⟨h.1, h.2.1, h.2.2.1, h.2.2.2.1, ?_⟩
      have h5 := h.2.2.2.2
      split at h5
      · rename_i hm; rw [if_pos hm]; exact hk _ _ h5
      · rename_i hm; rw [if_neg hm]; exact hk _ _ h5
    · exact h
  · split at h
    · exact ⟨h.1, h.2.1, h.2.2.1, hk _ _ h.2.2.2⟩
    · exact h
  · exact h
theorem aappendz_mono {H : AH} {t : TypeId} {d : AV} {m : Nat} {K K' : AV → AH → Prop} (hk : ∀ v H', K v H' → K' v H') (h : aappendz P W0 H t d m K) : aappendz P W0 H t d m K' := by
  unfold aappendz at *
  split at h
  · split at h
    · exact ⟨h.1, h.2.1, h.2.2.1, h.2.2.2.1, h.2.2.2.2.1, h.2.2.2.2.2.1, h.2.2.2.2.2.2.1, h.2.2.2.2.2.2.2.1, hk _ _ h.2.2.2.2.2.2.2.2⟩
    · exact h
  · exact h
theorem aslice3_mono {H : AH} {s : Nat} {x : AV} {lo hi mx : Option AV} {K K' : AV → AH → Prop} (hk : ∀ v H', K v H' → K' v H') (h : aslice3 W0 H s x lo hi mx K) : aslice3 W0 H s x lo hi mx K' := by
  unfold aslice3 at *
  split at h
  · split at h
    · split at h
      · exact ⟨h.1, h.2.1, h.2.2.1, h.2.2.2.1, h.2.2.2.2.1, hk _ _ h.2.2.2.2.2⟩
      · exact h
    · exact ⟨h.1, h.2.1, h.2.2.1, h.2.2.2.1, hk _ _ h.2.2.2.2⟩
  · exact h
theorem aslice_mono {H : AH} {s : Nat} {x : AV} {lo hi : Option AV} {K K' : AV → AH → Prop} (hk : ∀ v H', K v H' → K' v H') (h : aslice W0 H s x lo hi K) : aslice W0 H s x lo hi K' := by
  unfold aslice at *
  split at h
  · split at h
    · exact ⟨h.1, h.2.1, h.2.2.1, hk _ _ h.2.2.2⟩
    · exact h
  · split at h
    · split at h
      · exact ⟨h.1, h.2.1, h.2.2.1, h.2.2.2.1, hk _ _ h.2.2.2.2⟩
      · exact h
    · exact h
  · split at h
    · split at h
      · exact ⟨h.1, h.2.1, h.2.2.1, h.2.2.2.1, hk _ _ h.2.2.2.2⟩
      · exact h
    · exact h
  · split at h
    · exact ⟨h.1, h.2.1, hk _ _ h.2.2⟩
    · exact h
  · split at h
    · exact ⟨h.1, h.2.1, h.2.2.1, h.2.2.2.1, hk _ _ h.2.2.2.2⟩
    · exact h
  · exact h
theorem abuiltin_mono {b : Builtin} {ts : List TypeId} {xs : List AV} {H : AH} {K K' : AV → AH → Prop} (hk : ∀ v H', K v H' → K' v H') (h : abuiltin P W0 b ts xs H K) : abuiltin P W0 b ts xs H K' := by
  unfold abuiltin at *
  split at h
  · exact ⟨h.1, hk _ _ h.2⟩
  · refine ⟨h.1, ?_⟩
    have h2 := h.2
    split at h2
    · exact hk _ _ h2
    · exact h2
  · split at h
    · exact aappend_mono hk h
    · split at h
      · exact ⟨h.1, aappendz_mono hk h.2⟩
      · exact h
    · exact h
  · exact ⟨h.1, hk _ _ h.2⟩
  · split at h
    · split at h
      · exact ⟨h.1, h.2.1, h.2.2.1, hk _ _ h.2.2.2⟩
      · exact h
    · exact h
  · exact hk _ _ h
  · exact hk _ _ h
  · split at h
    · split at h
      · exact ⟨h.1, h.2.1, h.2.2.1, h.2.2.2.1, hk _ _ h.2.2.2.2⟩
      · exact h
    · exact h
  · exact h
theorem ACalls.mono {f : FuncId} {args : List AV} {H : AH} {R R' : AV → AH → Prop} (h : ACalls P W0 f args H R) (k : ∀ v H', R v H' → R' v H') : ACalls P W0 f args H R' :=
  ⟨h.1, fun φ W ys hI hv => (h.2 φ W ys hI hv).mono fun e W' ⟨y, v, H', φ', h1, h2, h3, h4, h5⟩ => ⟨y, v, H', φ', h1, h2, h3, h4, k v H' h5⟩⟩

theorem ACallG.mono {f : FuncId} {args : List AV} {H : AH} {R R' : AV → AH → Prop} (h : ACallG P W0 f args H R) (k : ∀ v H', R v H' → R' v H') : ACallG P W0 f args H R' := by
  rcases h with h | h
  · exact .inl (h.mono k)
  · refine .inr fun φ W ys hI hv => ?_
    obtain ⟨y, W', hr, v, H', φ', h1, h2, h3, h4⟩ := h φ W ys hI hv
    exact ⟨y, W', hr, v, H', φ', h1, h2, h3, k _ _ h4⟩
theorem aop_mono {op : Op} {e : Env} {H : AH} {K K' : AV → AH → Prop} (hk : ∀ v H', K v H' → K' v H') (h : aop P W0 op e H K) : aop P W0 op e H K' := by
  cases op with
  | store t a x =>
    simp only [aop] at *
    split at h
    · exact astore_mono hk h
    · exact h
  | slice t x lo hi mx =>
    simp only [aop] at *
    split at h
    · exact ⟨h.1, aslice_mono hk h.2⟩
    · split at h
      · exact aslice_mono hk h
      · exact h
    · split at h
      · exact aslice3_mono hk h
      · exact h
  | call c =>
    simp only [aop] at *
    split at h
    · exact abuiltin_mono hk h
    · split at h
      · exact ACallG.mono h hk
      · exact h
    · exact h
  | binOp op t x y c =>
    simp only [aop] at *
    split at h
    · split at h <;> first | exact hk _ _ h | exact h
    · split at h
      · exact hk _ _ h
      · split at h <;> first | exact ⟨h.1, hk _ _ h.2⟩ | exact h
    · split at h <;> first | exact ⟨h.1, hk _ _ h.2⟩ | exact h
    · split at h
      · obtain ⟨xs, ys, r, h1, h2, h3, h4⟩ := h
        exact ⟨xs, ys, r, h1, h2, h3, hk _ _ h4⟩
      · obtain ⟨xs, ys, r, h1, h2, h3, h4⟩ := h
        exact ⟨xs, ys, r, h1, h2, h3, hk _ _ h4⟩
      · exact h
    · exact h
  | index t x ix =>
    simp only [aop] at *
    split at h
    · obtain ⟨h1, h2, b, h3, h4⟩ := h
      exact ⟨h1, h2, b, h3, hk _ _ h4⟩
    · split at h
      · split at h
        · exact ⟨h.1, h.2.1, h.2.2.1, h.2.2.2.1, hk _ _ h.2.2.2.2⟩
        · exact h
      · exact h
    · exact h
  | move x => exact hk _ _ h
  | assign x => exact hk _ _ h
  | pick c a b => simp only [aop] at *; split at h <;> first | exact hk _ _ h | exact h
  | alloc t => simp only [aop] at *; split at h <;> first | exact hk _ _ h | exact h
  | box t x => simp only [aop] at *; split at h <;> first | exact hk _ _ h | exact h
  | build t parts =>
    simp only [aop] at *
    split at h
    · split at h <;> first | exact hk _ _ h | exact h
    · split at h
      · split at h <;> first | exact hk _ _ h | exact h
      · exact h
    · exact h
  | buildSlice t len parts =>
    simp only [aop] at *
    split at h
    · refine ⟨h.1, h.2.1, ?_⟩
      have h2 := h.2.2
      split at h2 <;> first | exact hk _ _ h2 | exact h2
    · exact h
  | load t a =>
    simp only [aop] at *
    split at h
    · refine ⟨h.1, ?_⟩
      have h2 := h.2
      split at h2 <;> first | exact hk _ _ h2 | exact h2
    · exact h
  | nilCheck x => simp only [aop] at *; split at h <;> first | exact hk _ _ h | exact h
  | unOp op t x =>
    simp only [aop] at *
    split at h
    · split at h <;> first | exact hk _ _ h | exact h
    · exact h
  | convert s d x =>
    simp only [aop] at *
    split at h
    · split at h <;> first | exact hk _ _ h | exact h
    · split at h
      · rename_i hc; rw [if_pos hc]; exact hk _ _ h
      · exact h.elim
    · split at h
      · refine ⟨h.1, ?_⟩
        have h2 := h.2
        split at h2 <;> first | exact hk _ _ h2 | exact h2
      · exact h
    · split at h <;> first | exact ⟨h.1, hk _ _ h.2⟩ | exact h
    · exact h
  | makeFunc f first caps => simp only [aop] at *; split at h <;> first | exact ⟨h.1, hk _ _ h.2⟩ | exact h
  | makeSlice t l c =>
    simp only [aop] at *
    split at h
    · exact ⟨h.1, h.2.1, h.2.2.1, h.2.2.2.1, h.2.2.2.2.1, hk _ _ h.2.2.2.2.2⟩
    · exact h
  | fieldAddr t x f =>
    simp only [aop] at *
    split at h
    · split at h <;> first | exact ⟨h.1, hk _ _ h.2⟩ | exact h
    · exact h
  | field t x f =>
    simp only [aop] at *
    split at h
    · split at h <;> first | exact ⟨h.1, h.2.1, hk _ _ h.2.2⟩ | exact h
    · exact h
  | indexAddr t x ix =>
    simp only [aop] at *
    split at h
    · split at h <;> first | exact ⟨h.1, h.2.1, hk _ _ h.2.2⟩ | exact h
    · split at h
      · exact ⟨h.1, h.2.1, h.2.2.1, hk _ _ h.2.2.2⟩
      · exact ⟨h.1, h.2.1, h.2.2.1, hk _ _ h.2.2.2⟩
      · exact ⟨h.1, h.2.1, hk _ _ h.2.2⟩
      · exact h
  | extract x i =>
    simp only [aop] at *
    split at h
    · split at h <;> first | exact hk _ _ h | exact h
    · exact h
  | _ => exact h.elim

/-- An operation that changes no memory. -/
def quietOp : Op → Bool
  | .move _ | .assign _ | .pick .. | .build .. | .load .. | .nilCheck _ | .binOp .. | .unOp .. | .convert .. | .makeFunc .. | .slice .. | .fieldAddr .. | .field .. | .indexAddr .. | .index .. | .extract .. => true
  | .call c => match c.callee with
    | .builtin .len => true
    | .builtin .min => true
    | .builtin .max => true
    | .builtin .cap => true
    | _ => false
  | _ => false
/-- What a quiet operation computes. -/
theorem quiet_det {op : Op} (hq : quietOp op = true) {e : Env} {H : AH} {K : AV → AH → Prop} (h : aop P W0 op e H K) : ∃ v, K v H ∧ ∀ K' : AV → AH → Prop, K' v H → aop P W0 op e H K' := by
  cases op with
  | slice t x lo hi mx =>
    have key : ∀ {s : Nat} {x : AV} {lo hi : Option AV}, aslice W0 H s x lo hi K → ∃ v, K v H ∧ ∀ K' : AV → AH → Prop, K' v H → aslice W0 H s x lo hi K' := by
      intro s x lo hi h
      unfold aslice at *
      split at h
      · split at h
        · exact ⟨_, h.2.2.2, fun _ k => ⟨h.1, h.2.1, h.2.2.1, k⟩⟩
        · exact h.elim
      · split at h
        · split at h
          · exact ⟨_, h.2.2.2.2, fun _ k => ⟨h.1, h.2.1, h.2.2.1, h.2.2.2.1, k⟩⟩
          · exact h.elim
        · exact h.elim
      · split at h
        · split at h
          · exact ⟨_, h.2.2.2.2, fun _ k => ⟨h.1, h.2.1, h.2.2.1, h.2.2.2.1, k⟩⟩
          · exact h.elim
        · exact h.elim
      · split at h
        · exact ⟨_, h.2.2, fun _ k => ⟨h.1, h.2.1, k⟩⟩
        · exact h.elim
      · split at h
        · exact ⟨_, h.2.2.2.2, fun _ k => ⟨h.1, h.2.1, h.2.2.1, h.2.2.2.1, k⟩⟩
        · exact h.elim
      · exact h.elim
    have key3 : ∀ {s : Nat} {x : AV} {lo hi mx : Option AV}, aslice3 W0 H s x lo hi mx K → ∃ v, K v H ∧ ∀ K' : AV → AH → Prop, K' v H → aslice3 W0 H s x lo hi mx K' := by
      intro s x lo hi mx h
      unfold aslice3 at *
      split at h
      · split at h
        · split at h
          · exact ⟨_, h.2.2.2.2.2, fun _ k => ⟨h.1, h.2.1, h.2.2.1, h.2.2.2.1, h.2.2.2.2.1, k⟩⟩
          · exact h.elim
        · exact ⟨_, h.2.2.2.2, fun _ k => ⟨h.1, h.2.1, h.2.2.1, h.2.2.2.1, k⟩⟩
      · exact h.elim
    simp only [aop] at *
    split at h
    · obtain ⟨v, h1, h2⟩ := key h.2
      exact ⟨v, h1, fun K' k => ⟨h.1, h2 K' k⟩⟩
    · split at h
      · exact key h
      · exact h.elim
    · split at h
      · exact key3 h
      · exact h.elim
  | call c =>
    simp only [aop] at *
    split at h
    · rename_i b hb
      simp only [quietOp, hb] at hq
      unfold abuiltin at *
      split at h
      · exact ⟨_, h.2, fun _ k => ⟨h.1, k⟩⟩
      · have h2 := h.2
        split at h2
        · exact ⟨_, h2, fun _ k => ⟨h.1, k⟩⟩
        · exact h2.elim
      · simp at hq
      · exact ⟨_, h.2, fun _ k => ⟨h.1, k⟩⟩
      · simp at hq
      · exact ⟨_, h, fun _ k => k⟩
      · exact ⟨_, h, fun _ k => k⟩
      · simp at hq
      · exact h.elim
    · rename_i f hf
      simp [quietOp, hf] at hq
    · exact h.elim
  | binOp op t x y c =>
    simp only [aop] at *
    split at h
    · split at h <;> first | exact ⟨_, h, fun _ k => k⟩ | exact h.elim
    · split at h
      · exact ⟨_, h, fun _ k => k⟩
      · split at h <;> first | exact ⟨_, h.2, fun _ k => ⟨h.1, k⟩⟩ | exact h.elim
    · split at h <;> first | exact ⟨_, h.2, fun _ k => ⟨h.1, k⟩⟩ | exact h.elim
    · split at h
      · obtain ⟨xs, ys, r, h1, h2, h3, h4⟩ := h
        exact ⟨_, h4, fun _ k => ⟨xs, ys, r, h1, h2, h3, k⟩⟩
      · obtain ⟨xs, ys, r, h1, h2, h3, h4⟩ := h
        exact ⟨_, h4, fun _ k => ⟨xs, ys, r, h1, h2, h3, k⟩⟩
      · exact h.elim
    · exact h.elim
  | index t x ix =>
    simp only [aop] at *
    split at h
    · obtain ⟨h1, h2, b, h3, h4⟩ := h
      exact ⟨_, h4, fun _ k => ⟨h1, h2, b, h3, k⟩⟩
    · split at h
      · split at h
        · exact ⟨_, h.2.2.2.2, fun _ k => ⟨h.1, h.2.1, h.2.2.1, h.2.2.2.1, k⟩⟩
        · exact h.elim
      · exact h.elim
    · exact h.elim
  | move x => exact ⟨_, h, fun _ k => k⟩
  | assign x => exact ⟨_, h, fun _ k => k⟩
  | pick c a b => simp only [aop] at *; split at h <;> first | exact ⟨_, h, fun _ k => k⟩ | exact h.elim
  | build t parts =>
    simp only [aop] at *
    split at h
    · split at h <;> first | exact ⟨_, h, fun _ k => k⟩ | exact h.elim
    · split at h
      · split at h <;> first | exact ⟨_, h, fun _ k => k⟩ | exact h.elim
      · exact h.elim
    · exact h.elim
  | load t a =>
    simp only [aop] at *
    split at h
    · have h2 := h.2
      split at h2
      · exact ⟨_, h2, fun _ k => ⟨h.1, k⟩⟩
      · exact h2.elim
    · exact h.elim
  | nilCheck x => simp only [aop] at *; split at h <;> first | exact ⟨_, h, fun _ k => k⟩ | exact h.elim
  | unOp op t x =>
    simp only [aop] at *
    split at h
    · split at h <;> first | exact ⟨_, h, fun _ k => k⟩ | exact h.elim
    · exact h.elim
  | convert s d x =>
    simp only [aop] at *
    split at h
    · split at h <;> first | exact ⟨_, h, fun _ k => k⟩ | exact h.elim
    · split at h
      · rename_i hc; exact ⟨_, h, fun _ k => by rw [if_pos hc]; exact k⟩
      · exact h.elim
    · split at h
      · have h2 := h.2
        split at h2
        · exact ⟨_, h2, fun _ k => ⟨h.1, k⟩⟩
        · exact h2.elim
      · exact h.elim
    · split at h <;> first | exact ⟨_, h.2, fun _ k => ⟨h.1, k⟩⟩ | exact h.elim
    · exact h.elim
  | makeFunc f first caps => simp only [aop] at *; split at h <;> first | exact ⟨_, h.2, fun _ k => ⟨h.1, k⟩⟩ | exact h.elim
  | fieldAddr t x f =>
    simp only [aop] at *
    split at h
    · split at h <;> first | exact ⟨_, h.2, fun _ k => ⟨h.1, k⟩⟩ | exact h.elim
    · exact h.elim
  | field t x f =>
    simp only [aop] at *
    split at h
    · split at h <;> first | exact ⟨_, h.2.2, fun _ k => ⟨h.1, h.2.1, k⟩⟩ | exact h.elim
    · exact h.elim
  | indexAddr t x ix =>
    simp only [aop] at *
    split at h
    · split at h <;> first | exact ⟨_, h.2.2, fun _ k => ⟨h.1, h.2.1, k⟩⟩ | exact h.elim
    · split at h
      · exact ⟨_, h.2.2.2, fun _ k => ⟨h.1, h.2.1, h.2.2.1, k⟩⟩
      · exact ⟨_, h.2.2.2, fun _ k => ⟨h.1, h.2.1, h.2.2.1, k⟩⟩
      · exact ⟨_, h.2.2, fun _ k => ⟨h.1, h.2.1, k⟩⟩
      · exact h.elim
  | extract x i =>
    simp only [aop] at *
    split at h
    · split at h <;> first | exact ⟨_, h, fun _ k => k⟩ | exact h.elim
    · exact h.elim
  | _ => simp [quietOp] at hq
/-! ### Orders -/
def tmpsOf (op : Op) : List Nat := op.operands.toList.filterMap fun | .tmp t => some t | _ => none
def gtOf (all : Array Oper) (o : Oper) : List Nat := match o.guard with | some (j, _) => (gtmp all j).toList | none => []
def looks (all : Array Oper) (o : Oper) : List Nat := tmpsOf o.op ++ gtOf all o
def raw1 (P : Program) (W0 : World) (all : Array Oper) (o : Oper) (e : Env) (H : AH) (R : AV → AH → Prop) : Prop := match want1 all e o with
  | some true => aop P W0 o.op e H R
  | some false => R (.v undef) H
  | none => False
def quietO (o : Oper) : Bool := quietOp o.op
variable {all : Array Oper}
theorem raw1_mono {o : Oper} {e : Env} {H : AH} {R R' : AV → AH → Prop} (hk : ∀ v H', R v H' → R' v H') (h : raw1 P W0 all o e H R) : raw1 P W0 all o e H R' := by
  unfold raw1 at *
  split
  · rename_i hw; rw [hw] at h; exact aop_mono hk h
  · rename_i hw; rw [hw] at h; exact hk _ _ h
  · rename_i hw; rw [hw] at h; exact h
theorem raw1_congr {o : Oper} {e e' : Env} {H : AH} {R : AV → AH → Prop} (he : ∀ t ∈ looks all o, e t = e' t) (h : raw1 P W0 all o e H R) : raw1 P W0 all o e' H R := by
  have hw : want1 all e o = want1 all e' o := by
    unfold want1
    cases hg : o.guard with
    | none => rfl
    | some g =>
      obtain ⟨j, w⟩ := g
      simp only
      cases ht : gtmp all j with
      | none => rfl
      | some t =>
        simp only
        rw [he t (by simp [looks, gtOf, hg, ht])]
  have ho : ∀ x ∈ o.op.operands.toList, ev e x = ev e' x := by
    intro x hx
    cases x with
    | tmp t => exact he t (by simp only [looks, tmpsOf, List.mem_append, List.mem_filterMap]; exact .inl ⟨_, hx, rfl⟩)
    | _ => rfl
  unfold raw1 at *
  rw [← hw]
  split
  · rename_i hw2; rw [hw2] at h; simp only at h; rwa [aop_congr ho] at h
  · rename_i hw2; rw [hw2] at h; exact h
  · rename_i hw2; rw [hw2] at h; exact h
theorem raw1_det {o : Oper} (hq : quietO o = true) {e : Env} {H : AH} {R : AV → AH → Prop} (h : raw1 P W0 all o e H R) : ∃ v, R v H ∧ ∀ R' : AV → AH → Prop, R' v H → raw1 P W0 all o e H R' := by
  unfold raw1 at *
  split at h
  · obtain ⟨v, h1, h2⟩ := quiet_det hq h
    exact ⟨v, h1, h2⟩
  · exact ⟨_, h, fun _ k => k⟩
  · exact h.elim

def dIn (d : Option Nat) (l : List Nat) : Bool := match d with | some t => l.contains t | none => false
theorem putA_at {d : Option Nat} {l : List Nat} (h : dIn d l = false) (v : AV) (e : Env) : ∀ t ∈ l, putA d v e t = e t := by
  intro t ht
  cases d with
  | none => rfl
  | some u =>
    simp only [putA, upd]
    rw [if_neg]
    rintro rfl
    simp [dIn, ht] at h
theorem putA_comm {d d' : Option Nat} (h : dIn d d'.toList = false) (v v' : AV) (e : Env) : putA d v (putA d' v' e) = putA d' v' (putA d v e) := by
  cases d with
  | none => rfl
  | some u =>
    cases d' with
    | none => rfl
    | some u' =>
      have : u ≠ u' := by simpa [dIn] using h
      funext t
      simp only [putA, upd]
      by_cases h1 : t = u
      · subst h1
        rw [if_pos rfl, if_neg this, if_pos rfl]
      · rw [if_neg h1, if_neg h1]
def indep (all : Array Oper) (a b : Oper) : Bool := !dIn a.dst (looks all b) && !dIn b.dst (looks all a) && !dIn b.dst a.dst.toList && !dIn a.dst (looks all a)
/-- b, that comes later, writes nothing that a reads or writes. -/
def noanti (all : Array Oper) (a b : Oper) : Bool := !dIn b.dst (looks all a) && !dIn b.dst a.dst.toList
def recheck (P : Program) (W0 : World) (all : Array Oper) (o : Oper) (e : Env) (H : AH) : Prop := raw1 P W0 all o e H fun v H' => H' = H ∧ ∀ t, o.dst = some t → v = e t
def stable (P : Program) (W0 : World) (all : Array Oper) (bef : Nat → Nat → Bool) (hist : List Nat) (i : Nat) (e : Env) (H : AH) : Prop := ∀ j ∈ hist, bef j i = false → ∀ o, all[j]? = some o → recheck P W0 all o e H
/-- The operations in one order; behind one that changes memory, those of before that might come behind it compute what they computed. -/
def wl (P : Program) (W0 : World) (all : Array Oper) (bef : Nat → Nat → Bool) (Q : Env → AH → Prop) : List Nat → List Nat → Env → AH → Prop
  | hist, [], e, H => Q e H
  | hist, i :: l, e, H => match all[i]? with
    | some o => if quietO o = true then raw1 P W0 all o e H fun v H' => wl P W0 all bef Q (i :: hist) l (putA o.dst v e) H'
      else raw1 P W0 all o e H fun v H' => stable P W0 all bef hist i (putA o.dst v e) H' ∧ wl P W0 all bef Q hist l (putA o.dst v e) H'
    | none => False
variable {bef : Nat → Nat → Bool} {Q : Env → AH → Prop}
theorem wl_hist : ∀ (l hist hist' : List Nat) (e : Env) (H : AH), (∀ j ∈ hist', j ∈ hist) → wl P W0 all bef Q hist l e H → wl P W0 all bef Q hist' l e H
  | [], _, _, _, _, _, h => h
  | i :: l, hist, hist', e, H, hs, h => by
    simp only [wl] at h ⊢
    split at h
    · split at h
      · rename_i hq
        rw [if_pos hq]
        exact raw1_mono (fun v H' hk => wl_hist l _ _ _ _ (fun j hj => (List.mem_cons.1 hj).elim (fun h => h ▸ List.mem_cons_self ..) fun hj => List.mem_cons_of_mem _ (hs j hj)) hk) h
      · rename_i hq
        rw [if_neg hq]
        exact raw1_mono (fun v H' hk => ⟨fun j hj => hk.1 j (hs j hj), wl_hist l _ _ _ _ hs hk.2⟩) h
    · exact h
/-- What a pending operation must be, for i to come first. -/
def Pend (all : Array Oper) (bef : Nat → Nat → Bool) (i : Nat) (oi : Oper) (j : Nat) : Prop := ∃ o, all[j]? = some o ∧ quietO o = true ∧ bef j i = false ∧ indep all o oi = true
def NA (all : Array Oper) (j k : Nat) : Prop := ∀ a b, all[j]? = some a → all[k]? = some b → noanti all a b = true
theorem move {i : Nat} {oi : Oper} (hi : all[i]? = some oi) : ∀ (l1 hist pend l2 : List Nat) (e : Env) (H : AH), (∀ j ∈ l1, Pend all bef i oi j) → (∀ j ∈ pend, j ∈ hist) → (∀ j ∈ pend, bef j i = false) → (quietO oi = false → l1.Pairwise (NA all) ∧ ∀ k ∈ pend, ∀ j ∈ l1, NA all k j) →
    wl P W0 all bef Q hist (l1 ++ i :: l2) e H → raw1 P W0 all oi e H fun v H' => (quietO oi = false → stable P W0 all bef pend i (putA oi.dst v e) H') ∧ wl P W0 all bef Q hist (l1 ++ l2) (putA oi.dst v e) H'
  | [], hist, pend, l2, e, H, hp, h1, h2, h3, h => by
    simp only [List.nil_append, wl, hi] at h
    split at h
    · rename_i hq
      exact raw1_mono (fun v H' hk => ⟨fun hn => absurd (hq.symm.trans hn) (by decide), wl_hist _ _ _ _ _ (fun j hj => List.mem_cons_of_mem _ hj) hk⟩) h
    · exact raw1_mono (fun v H' hk => ⟨fun _ j hj => hk.1 j (h1 j hj), hk.2⟩) h
  | j :: l1, hist, pend, l2, e, H, hp, h1, h2, h3, h => by
    obtain ⟨oj, hj, hq, hb, hind⟩ := hp j (List.mem_cons_self ..)
    simp only [List.cons_append, wl, hj, hq, if_true] at h
    obtain ⟨vj, hw, hre⟩ := raw1_det hq h
    simp only [indep, Bool.and_eq_true, Bool.not_eq_true'] at hind
    obtain ⟨⟨⟨i1, i2⟩, i3⟩, i4⟩ := hind
    have ih := move hi l1 (j :: hist) (j :: pend) l2 (putA oj.dst vj e) H (fun k hk => hp k (List.mem_cons_of_mem _ hk))
      (fun k hk => by rcases List.mem_cons.1 hk with rfl | hk; exact List.mem_cons_self ..; exact List.mem_cons_of_mem _ (h1 k hk))
      (fun k hk => by rcases List.mem_cons.1 hk with rfl | hk; exact hb; exact h2 k hk)
      (fun hn => by
        obtain ⟨g1, g2⟩ := h3 hn
        rw [List.pairwise_cons] at g1
        refine ⟨g1.2, fun k hk m hm => ?_⟩
        rcases List.mem_cons.1 hk with rfl | hk
        · exact g1.1 m hm
        · exact g2 k hk m (List.mem_cons_of_mem _ hm)) hw
    have ih2 := raw1_congr (e' := e) (fun t ht => putA_at i1 vj e t ht) ih
    have hcm : ∀ v, putA oi.dst v (putA oj.dst vj e) = putA oj.dst vj (putA oi.dst v e) := fun v => putA_comm i3 v vj e
    have step : ∀ v H', (quietO oi = true → H' = H) → ((quietO oi = false → stable P W0 all bef (j :: pend) i (putA oi.dst v (putA oj.dst vj e)) H') ∧ wl P W0 all bef Q (j :: hist) (l1 ++ l2) (putA oi.dst v (putA oj.dst vj e)) H') →
        (quietO oi = false → stable P W0 all bef pend i (putA oi.dst v e) H') ∧ wl P W0 all bef Q hist (j :: l1 ++ l2) (putA oi.dst v e) H' := by
      rintro v H' hH ⟨hA, hB⟩
      rw [hcm] at hA hB
      refine ⟨fun hn k hk hbk ok hok => ?_, ?_⟩
      · have hna := (h3 hn).2 k hk j (List.mem_cons_self ..) ok oj hok hj
        simp only [noanti, Bool.and_eq_true, Bool.not_eq_true'] at hna
        have := hA hn k (List.mem_cons_of_mem _ hk) hbk ok hok
        unfold recheck at *
        refine raw1_mono ?_ (raw1_congr (e' := putA oi.dst v e) (fun t ht => putA_at hna.1 vj _ t ht) this)
        rintro w H'' ⟨rfl, hw⟩
        refine ⟨rfl, fun t ht => ?_⟩
        rw [hw t ht]
        exact putA_at hna.2 vj _ t (by simp [ht])
      · simp only [List.cons_append, wl, hj, hq, if_true]
        cases hqi : quietO oi with
        | true =>
          have := hH hqi
          subst this
          exact raw1_congr (fun t ht => (putA_at i2 v e t ht).symm) (hre _ hB)
        | false =>
          have := hA hqi j (List.mem_cons_self ..) hb oj hj
          unfold recheck at this
          refine raw1_mono ?_ (raw1_congr (e' := putA oi.dst v e) (fun t ht => putA_at i4 vj _ t ht) this)
          rintro w H'' ⟨rfl, hw⟩
          have : putA oj.dst w (putA oi.dst v e) = putA oj.dst vj (putA oi.dst v e) := by
            cases hd : oj.dst with
            | none => rfl
            | some t =>
              rw [hw t hd, hd]
              simp [putA, upd]
          rw [this]
          exact hB
    by_cases hqi : quietO oi = true
    · obtain ⟨v, k1, k2⟩ := raw1_det hqi ih2
      exact k2 _ (step v H (fun _ => rfl) k1)
    · exact raw1_mono (fun v H' hk => step v H' (fun hn => absurd hn hqi) hk) ih2

/-! ### What comes ahead of what -/
inductive Reach (all : Array Oper) : Nat → Nat → Prop
  | one {i : Nat} {o : Oper} {ed : Edge} : all[i]? = some o → ed ∈ o.after → Region.binds .any ed = true → Reach all i ed.on
  | step {i j : Nat} {o : Oper} {ed : Edge} : all[i]? = some o → ed ∈ o.after → Region.binds .any ed = true → Reach all ed.on j → Reach all i j
def maskOf (ms : List Nat) (es : List Edge) : Nat := es.foldl (fun m ed => if Region.binds .any ed = true then m ||| (1 <<< ed.on) ||| ms.getD ed.on 0 else m) 0
def masks : List Oper → List Nat → List Nat
  | [], ms => ms
  | o :: os, ms => masks os (ms ++ [maskOf ms o.after.toList])
theorem maskOf_bit (ms : List Nat) (j : Nat) : ∀ (es : List Edge) (m : Nat), (es.foldl (fun m ed => if Region.binds .any ed = true then m ||| (1 <<< ed.on) ||| ms.getD ed.on 0 else m) m).testBit j = true →
    m.testBit j = true ∨ ∃ ed ∈ es, Region.binds .any ed = true ∧ (ed.on = j ∨ (ms.getD ed.on 0).testBit j = true)
  | [], m, h => .inl h
  | ed :: es, m, h => by
    rw [List.foldl_cons] at h
    rcases maskOf_bit ms j es _ h with h | ⟨d, hd, h1, h2⟩
    · split at h
      · rename_i hb
        simp only [Nat.testBit_or, Bool.or_eq_true] at h
        rcases h with (h | h) | h
        · exact .inl h
        · refine .inr ⟨ed, List.mem_cons_self .., hb, .inl ?_⟩
          rw [Nat.one_shiftLeft, Nat.testBit_two_pow] at h
          simpa using h
        · exact .inr ⟨ed, List.mem_cons_self .., hb, .inr h⟩
      · exact .inl h
    · exact .inr ⟨d, List.mem_cons_of_mem _ hd, h1, h2⟩
def GoodMs (all : Array Oper) (ms : List Nat) : Prop := ∀ k j, (ms.getD k 0).testBit j = true → Reach all k j
theorem masks_good : ∀ (os : List Oper) (ms : List Nat), (∀ k, os[k]? = all[ms.length + k]?) → GoodMs all ms → GoodMs all (masks os ms)
  | [], ms, _, h => h
  | o :: os, ms, ho, h => by
    refine masks_good os (ms ++ [maskOf ms o.after.toList]) (fun k => ?_) ?_
    · have := ho (k + 1)
      simp only [List.getElem?_cons_succ] at this
      rw [this, List.length_append, List.length_singleton]
      congr 1; omega
    · intro k j hk
      rw [List.getD_eq_getElem?_getD, List.getElem?_append] at hk
      split at hk
      · exact h k j (by rw [List.getD_eq_getElem?_getD]; exact hk)
      · rename_i hlt
        cases hkk : k - ms.length with
        | zero =>
          have : k = ms.length := by omega
          subst this
          rw [Nat.sub_self] at hk
          simp only [List.getElem?_cons_zero, Option.getD_some] at hk
          have h0 := ho 0
          simp only [List.getElem?_cons_zero, Nat.add_zero] at h0
          rcases maskOf_bit ms j _ 0 hk with hz | ⟨ed, h1, h2, h3⟩
          · simp at hz
          · rcases h3 with rfl | h3
            · exact .one h0.symm (by simpa using h1) h2
            · exact .step h0.symm (by simpa using h1) h2 (h _ _ h3)
        | succ n => rw [hkk] at hk; simp at hk
def befOf (ops : Array Oper) : Nat → Nat → Bool := let ms := masks ops.toList []; fun j i => (ms.getD i 0).testBit j
theorem befOf_reach {ops : Array Oper} {j i : Nat} (h : befOf ops j i = true) : Reach ops i j :=
  masks_good (all := ops) ops.toList [] (fun k => by simp) (fun k j hk => by simp at hk) i j h
def Closed (all : Array Oper) (L : Nat → Bool) : Prop := ∀ i, L i = true → ∀ o, all[i]? = some o → ∀ ed ∈ o.after, Region.binds .any ed = true → L ed.on = true
theorem Closed.reach {L : Nat → Bool} (hc : Closed all L) {i j : Nat} (h : Reach all i j) : (∀ o, all[i]? = some o → ∀ ed ∈ o.after, Region.binds .any ed = true → L ed.on = true) → L j = true := by
  induction h with
  | one ho he hb => intro hd; exact hd _ ho _ he hb
  | step ho he hb _ ih => intro hd; exact ih (hc _ (hd _ ho _ he hb))
/-! ### Every order -/
def getO (all : Array Oper) (i : Nat) : Oper := all.getD i default
def dirTo (o : Oper) (d : Nat) : Bool := o.after.any fun ed => Region.binds .any ed && ed.on == d
def pw (f : Nat → Nat → Bool) : List Nat → Bool
  | [] => true
  | i :: l => l.all (f i) && pw f l
theorem pw_ok {f : Nat → Nat → Bool} : {l : List Nat} → pw f l = true → l.Pairwise fun a b => f a b = true
  | [], _ => .nil
  | i :: l, h => by
    simp only [pw, Bool.and_eq_true, List.all_eq_true] at h
    exact .cons h.1 (pw_ok h.2)
def pairOk (all : Array Oper) (bef : Nat → Nat → Bool) (j i : Nat) : Bool := !bef i j && !dirTo (getO all j) i && (bef j i || (quietO (getO all j) && indep all (getO all j) (getO all i))) && j != i
def tripOk (all : Array Oper) (bef : Nat → Nat → Bool) (i j k : Nat) : Bool := bef j i || bef k i || bef i k || noanti all (getO all j) (getO all k)
/-- An order of the operations by which all others go. -/
def okDraw (all : Array Oper) (ord : List Nat) : Bool :=
  let bef := befOf all
  (List.range all.size).all (fun i => ord.contains i) && ord.all (fun i => i < all.size && !dirTo (getO all i) i && (getO all i).after.all fun ed => !Region.binds .any ed || ed.on < all.size) && pw (pairOk all bef) ord &&
  ord.all fun i => quietO (getO all i) || pw (tripOk all bef i) ord
theorem getO_eq {i : Nat} {o : Oper} (h : all[i]? = some o) : getO all i = o := by simp [getO, h]
def awpAny (P : Program) (W0 : World) (all : Array Oper) (Q : Env → AH → Prop) : Nat → Array Bool → Env → AH → Prop
  | 0, listed, e, H => Region.ready .any all listed = [] ∧ Q e H
  | f + 1, listed, e, H => (Region.ready .any all listed = [] → Q e H) ∧ ∀ i ∈ Region.ready .any all listed, ∃ o, all[i]? = some o ∧ raw1 P W0 all o e H fun v H' => awpAny P W0 all Q f (listed.setIfInBounds i true) (putA o.dst v e) H'
theorem listed_set {listed : Array Bool} {i j : Nat} {d : Bool} (hi : i < listed.size) : (listed.setIfInBounds i true).getD j d = if j = i then true else listed.getD j d := by
  by_cases h : j = i
  · subst h; simp [hi]
  · rw [if_neg h]
    simp [Array.getElem?_setIfInBounds, Ne.symm h]
theorem wl_any {ord : List Nat} (hok : okDraw all ord = true) : ∀ (fuel : Nat) (listed : Array Bool) (l : List Nat) (e : Env) (H : AH), l.Sublist ord → l.length = fuel → listed.size = all.size → (∀ i, i < all.size → (listed.getD i true = false ↔ i ∈ l)) →
    Closed all (fun i => listed.getD i false) → wl P W0 all (befOf all) Q [] l e H → awpAny P W0 all Q fuel listed e H := by
  simp only [okDraw, Bool.and_eq_true] at hok
  obtain ⟨⟨⟨c1, c2⟩, c3⟩, c4⟩ := hok
  have c3 := pw_ok c3
  simp only [List.all_eq_true, Bool.and_eq_true, decide_eq_true_eq] at c2
  simp only [List.all_eq_true, Bool.or_eq_true] at c4
  intro fuel
  induction fuel with
  | zero =>
    intro listed l e H hs hl hz hm hc h
    have : l = [] := List.eq_nil_of_length_eq_zero hl
    subst this
    refine ⟨?_, h⟩
    rw [List.eq_nil_iff_forall_not_mem]
    intro i hi
    obtain ⟨h1, o, h2, _⟩ := mem_ready.1 hi
    have := (hm i (Array.getElem?_eq_some_iff.1 h2).1).1 h1
    cases this
  | succ fuel ih =>
    intro listed l e H hs hl hz hm hc h
    have inb : ∀ j, listed.getD j true = false → j < all.size := by
      intro j hj
      rcases Nat.lt_or_ge j listed.size with h | h
      · omega
      · rw [Array.getD_eq_getD_getElem?, Array.getElem?_eq_none h] at hj; cases hj
    have tt : ∀ j, j < all.size → j ∉ l → listed.getD j false = true := by
      intro j hj hn
      have h1 : ¬ listed.getD j true = false := fun hh => hn ((hm j hj).1 hh)
      have h2 : j < listed.size := by omega
      simp only [Array.getD_eq_getD_getElem?, Array.getElem?_eq_getElem h2, Option.getD_some] at h1 ⊢
      simpa using h1
    have ff : ∀ j ∈ l, ¬ listed.getD j false = true := by
      intro j hj
      have hjs := (c2 j (hs.subset hj)).1.1
      have h1 := (hm j hjs).2 hj
      have h2 : j < listed.size := by omega
      simp only [Array.getD_eq_getD_getElem?, Array.getElem?_eq_getElem h2, Option.getD_some] at h1 ⊢
      rw [h1]; decide
    have c3l := c3.sublist hs
    refine ⟨fun hnil => ?_, fun i hi => ?_⟩
    · cases l with
      | nil => simp at hl
      | cons i l =>
        exfalso
        have hi := c2 i (hs.subset (List.mem_cons_self ..))
        obtain ⟨⟨hi1, hi2⟩, hi3⟩ := hi
        have hg : all[i]? = some (getO all i) := by rw [Array.getElem?_eq_getElem hi1]; simp [getO, hi1]
        have : i ∈ Region.ready .any all listed := by
          refine mem_ready.2 ⟨(hm i hi1).2 (List.mem_cons_self ..), getO all i, hg, fun ed he hb => ?_⟩
          have h3 := Array.all_eq_true_iff_forall_mem.1 hi3 ed he
          rw [hb] at h3
          have h3 : ed.on < all.size := by simpa using h3
          refine tt _ h3 fun hmem => ?_
          have hd : dirTo (getO all i) ed.on = true := by
            obtain ⟨n, hn, rfl⟩ := Array.mem_iff_getElem.1 he
            simp only [dirTo, Array.any_eq_true]
            exact ⟨n, hn, by simp [hb]⟩
          rcases List.mem_cons.1 hmem with heq | hmem
          · rw [heq] at hd
            rw [hd] at hi2; cases hi2
          · have := (List.pairwise_cons.1 c3l).1 _ hmem
            simp only [pairOk, hd, Bool.not_true, Bool.and_false, Bool.false_and] at this
            cases this
        rw [hnil] at this
        cases this
    · obtain ⟨h1, oi, h2, h3⟩ := mem_ready.1 hi
      have hil := (hm i (inb i h1)).1 h1
      obtain ⟨l1, l2, rfl⟩ := List.append_of_mem hil
      have hoi := getO_eq h2
      rw [List.pairwise_append] at c3l
      obtain ⟨q1, q2, q3⟩ := c3l
      have pr : ∀ j ∈ l1, pairOk all (befOf all) j i = true := fun j hj => q3 j hj i (List.mem_cons_self ..)
      have notbef : ∀ j ∈ l1, befOf all j i = false := by
        intro j hj
        cases hb : befOf all j i with
        | false => rfl
        | true =>
          have := hc.reach (befOf_reach hb) (fun o ho ed he hbn => by rw [h2] at ho; injection ho with ho; subst ho; exact h3 ed he hbn)
          exact absurd this (ff j (List.mem_append_left _ hj))
      have bound : ∀ j ∈ l1, j < all.size := fun j hj => (c2 j (hs.subset (List.mem_append_left _ hj))).1.1
      have getg : ∀ j ∈ l1, all[j]? = some (getO all j) := fun j hj => by rw [Array.getElem?_eq_getElem (bound j hj)]; simp [getO, bound j hj]
      have hmv := move (Q := Q) (bef := befOf all) h2 l1 [] [] l2 e H ?_ (fun _ h => by cases h) (fun _ h => by cases h) ?_ h
      · refine ⟨oi, h2, raw1_mono (fun v H' hk => ih (listed.setIfInBounds i true) (l1 ++ l2) _ _ ?_ ?_ ?_ ?_ ?_ hk.2) hmv⟩
        · exact List.Sublist.trans ((List.Sublist.refl l1).append (List.sublist_cons_self _ _)) hs
        · simp only [List.length_append, List.length_cons] at hl ⊢; omega
        · simp [hz]
        · intro m hmz
          rw [listed_set (by have := inb i h1; omega)]
          split
          · rename_i hmi
            subst hmi
            simp only [Bool.true_eq_false, false_iff, List.mem_append, not_or]
            constructor
            · intro hml
              have := pr m hml
              simp [pairOk] at this
            · intro hml
              have := (List.pairwise_cons.1 q2).1 m hml
              simp [pairOk] at this
          · rename_i hmi
            rw [hm m hmz]
            simp only [List.mem_append, List.mem_cons, hmi, false_or]
        · intro m hmt o ho ed he hb
          simp only at hmt ⊢
          rw [listed_set (by have := inb i h1; omega)] at hmt ⊢
          split
          · rfl
          · split at hmt
            · rename_i hmi
              subst hmi
              rw [h2] at ho; injection ho with ho; subst ho
              exact h3 ed he hb
            · exact hc m hmt o ho ed he hb
      · intro j hj
        have hp := pr j hj
        simp only [pairOk, notbef j hj, Bool.false_or, Bool.and_eq_true] at hp
        refine ⟨getO all j, getg j hj, hp.1.2.1, notbef j hj, ?_⟩
        rw [hoi] at hp
        exact hp.1.2.2
      · intro hn
        refine ⟨?_, fun _ h => by cases h⟩
        have hq := (c4 i (hs.subset hil)).resolve_left (by rw [hoi, hn]; decide)
        have hq := (pw_ok hq).sublist hs
        rw [List.pairwise_append] at hq
        refine hq.1.imp_of_mem ?_
        intro j k hj hk ht a b ha hb
        have hp := pr k hk
        simp only [pairOk, Bool.and_eq_true, Bool.not_eq_true'] at hp
        simp only [tripOk, notbef j hj, notbef k hk, hp.1.1.1, Bool.false_or] at ht
        rw [getO_eq ha, getO_eq hb] at ht
        exact ht
/-! ### Several operations that change memory, in no order -/
inductive Tr where
  | node (q : List Nat) (brs : List (Nat × Tr))
def Tr.q : Tr → List Nat | .node q _ => q
def Tr.brs : Tr → List (Nat × Tr) | .node _ b => b
mutual
def Tr.paths : Tr → List (List Nat)
  | .node q [] => [q]
  | .node q (b :: bs) => Tr.pathsL q (b :: bs)
def Tr.pathsL (q : List Nat) : List (Nat × Tr) → List (List Nat)
  | [] => []
  | (i, t) :: bs => (t.paths).map (fun p => q ++ i :: p) ++ Tr.pathsL q bs
end
mutual
/-- The operations of the tree, with those of before; behind a branch the tree of that branch. -/
def wt (P : Program) (W0 : World) (all : Array Oper) (bef : Nat → Nat → Bool) (Q : Env → AH → Prop) : Tr → List Nat → Env → AH → Prop
  | .node q brs, hist, e, H => wl P W0 all bef (fun e' H' => (brs = [] → Q e' H') ∧ wts P W0 all bef Q brs (q.reverse ++ hist) e' H') hist q e H
def wts (P : Program) (W0 : World) (all : Array Oper) (bef : Nat → Nat → Bool) (Q : Env → AH → Prop) : List (Nat × Tr) → List Nat → Env → AH → Prop
  | [], _, _, _ => True
  | (i, t) :: bs, hist, e, H => (match all[i]? with
    | some o => raw1 P W0 all o e H fun v H' => stable P W0 all bef hist i (putA o.dst v e) H' ∧ wt P W0 all bef Q t hist (putA o.dst v e) H'
    | none => False) ∧ wts P W0 all bef Q bs hist e H
end
theorem wts_mem {all : Array Oper} {Q : Env → AH → Prop} {bef : Nat → Nat → Bool} {i : Nat} {t : Tr} : ∀ {bs : List (Nat × Tr)} {hist : List Nat} {e : Env} {H : AH}, wts P W0 all bef Q bs hist e H → (i, t) ∈ bs → ∃ o, all[i]? = some o ∧ raw1 P W0 all o e H fun v H' => stable P W0 all bef hist i (putA o.dst v e) H' ∧ wt P W0 all bef Q t hist (putA o.dst v e) H'
  | [], _, _, _, _, h => by cases h
  | (k, u) :: bs, hist, e, H, h, hm => by
    simp only [wts] at h
    rcases List.mem_cons.1 hm with heq | hm
    · cases heq
      have h1 := h.1
      split at h1
      · rename_i o ho; exact ⟨o, ho, h1⟩
      · exact h1.elim
    · exact wts_mem h.2 hm
theorem wl_monoQ {all : Array Oper} {bef : Nat → Nat → Bool} {Q Q' : Env → AH → Prop} (hq : ∀ e H, Q e H → Q' e H) : ∀ (l hist : List Nat) (e : Env) (H : AH), wl P W0 all bef Q hist l e H → wl P W0 all bef Q' hist l e H
  | [], _, _, _, h => hq _ _ h
  | i :: l, hist, e, H, h => by
    simp only [wl] at h ⊢
    split at h
    · split at h
      · rename_i hx
        rw [if_pos hx]
        exact raw1_mono (fun v H' hk => wl_monoQ hq l _ _ _ hk) h
      · rename_i hx
        rw [if_neg hx]
        exact raw1_mono (fun v H' hk => ⟨hk.1, wl_monoQ hq l _ _ _ hk.2⟩) h
    · exact h
mutual
theorem wt_hist {all : Array Oper} {Q : Env → AH → Prop} {bef : Nat → Nat → Bool} : ∀ (t : Tr) (hist hist' : List Nat) (e : Env) (H : AH), (∀ j ∈ hist', j ∈ hist) → wt P W0 all bef Q t hist e H → wt P W0 all bef Q t hist' e H
  | .node q brs, hist, hist', e, H, hs, h => by
    simp only [wt] at h ⊢
    refine wl_hist q hist hist' e H hs (wl_monoQ (fun e' H' hk => ⟨hk.1, wts_hist brs _ _ e' H' (fun j hj => ?_) hk.2⟩) q hist e H h)
    rcases List.mem_append.1 hj with hj | hj
    · exact List.mem_append_left _ hj
    · exact List.mem_append_right _ (hs j hj)
theorem wts_hist {all : Array Oper} {Q : Env → AH → Prop} {bef : Nat → Nat → Bool} : ∀ (bs : List (Nat × Tr)) (hist hist' : List Nat) (e : Env) (H : AH), (∀ j ∈ hist', j ∈ hist) → wts P W0 all bef Q bs hist e H → wts P W0 all bef Q bs hist' e H
  | [], _, _, _, _, _, _ => trivial
  | (i, t) :: bs, hist, hist', e, H, hs, h => by
    simp only [wts] at h ⊢
    refine ⟨?_, wts_hist bs hist hist' e H hs h.2⟩
    have h1 := h.1
    split at h1
    · exact raw1_mono (fun v H' hk => ⟨fun j hj => hk.1 j (hs j hj), wt_hist t hist hist' _ _ hs hk.2⟩) h1
    · exact h1
end
mutual
theorem wt_monoQ {all : Array Oper} {bef : Nat → Nat → Bool} {Q Q' : Env → AH → Prop} (hq : ∀ e H, Q e H → Q' e H) : ∀ (t : Tr) (hist : List Nat) (e : Env) (H : AH), wt P W0 all bef Q t hist e H → wt P W0 all bef Q' t hist e H
  | .node q brs, hist, e, H, h => by
    simp only [wt] at h ⊢
    exact wl_monoQ (fun e' H' hk => ⟨fun hb => hq _ _ (hk.1 hb), wts_monoQ hq brs _ e' H' hk.2⟩) q hist e H h
theorem wts_monoQ {all : Array Oper} {bef : Nat → Nat → Bool} {Q Q' : Env → AH → Prop} (hq : ∀ e H, Q e H → Q' e H) : ∀ (bs : List (Nat × Tr)) (hist : List Nat) (e : Env) (H : AH), wts P W0 all bef Q bs hist e H → wts P W0 all bef Q' bs hist e H
  | [], _, _, _, _ => trivial
  | (i, t) :: bs, hist, e, H, h => by
    simp only [wts] at h ⊢
    refine ⟨?_, wts_monoQ hq bs hist e H h.2⟩
    have h1 := h.1
    split at h1
    · exact raw1_mono (fun v H' hk => ⟨hk.1, wt_monoQ hq t hist _ _ hk.2⟩) h1
    · exact h1
end
/-- Quiet operations, then others. -/
theorem wl_then {all : Array Oper} {bef : Nat → Nat → Bool} {Q Q' : Env → AH → Prop} : ∀ (q hist l : List Nat) (e : Env) (H : AH), (∀ j ∈ q, ∃ o, all[j]? = some o ∧ quietO o = true) → (∀ e' H', Q e' H' → wl P W0 all bef Q' (q.reverse ++ hist) l e' H') → wl P W0 all bef Q hist q e H → wl P W0 all bef Q' hist (q ++ l) e H
  | [], hist, l, e, H, _, hk, h => by simpa using hk e H h
  | j :: q, hist, l, e, H, hq, hk, h => by
    obtain ⟨o, ho, hqo⟩ := hq j (List.mem_cons_self ..)
    simp only [List.cons_append, wl, ho, hqo, if_true] at h ⊢
    refine raw1_mono (fun v H' h' => wl_then q (j :: hist) l _ _ (fun k hk' => hq k (List.mem_cons_of_mem _ hk')) (fun e' H'' hx => ?_) h') h
    have := hk e' H'' hx
    simpa using this
mutual
/-- At each branching: every operation that changes memory and waits for no other one is a branch; the others stand below each. -/
def Tr.ok (all : Array Oper) (bef : Nat → Nat → Bool) : Tr → Bool
  | .node q brs => q.all (fun j => quietO (getO all j)) && Tr.okL all bef (brs.map (·.1)) brs
def Tr.okL (all : Array Oper) (bef : Nat → Nat → Bool) (hs : List Nat) : List (Nat × Tr) → Bool
  | [] => true
  | (i, t) :: bs => !quietO (getO all i) && t.ok all bef && (t.paths).all (fun p => p.all fun k => quietO (getO all k) || hs.contains k || (i :: p).any fun j => bef j k && !quietO (getO all j)) && Tr.okL all bef hs bs
end
def pairT (all : Array Oper) (bef : Nat → Nat → Bool) (j i : Nat) : Bool := !bef i j && !dirTo (getO all j) i && (bef j i || (quietO (getO all j) && indep all (getO all j) (getO all i)) || (!quietO (getO all j) && !quietO (getO all i))) && j != i
/-- One way through the tree. -/
def okPath (all : Array Oper) (bef : Nat → Nat → Bool) (ord : List Nat) : Bool :=
  ord.all (fun i => i < all.size && !dirTo (getO all i) i && (getO all i).after.all fun ed => !Region.binds .any ed || ed.on < all.size) && pw (pairT all bef) ord &&
  ord.all fun i => quietO (getO all i) || pw (tripOk all bef i) ord
def okTree (all : Array Oper) (t : Tr) : Bool :=
  let bef := befOf all
  t.ok all bef && (t.paths).all fun p => (List.range all.size).all (fun i => p.contains i) && okPath all bef p && p.length == all.size
mutual
theorem Tr.paths_ne : (t : Tr) → t.paths ≠ []
  | .node q [] => by simp [Tr.paths]
  | .node q ((i, t) :: bs) => by
    have := Tr.paths_ne t
    simp only [Tr.paths, Tr.pathsL]
    intro h
    rw [List.append_eq_nil_iff] at h
    exact this (List.map_eq_nil_iff.1 h.1)
end
theorem pathsL_mem {q p : List Nat} : ∀ {bs : List (Nat × Tr)}, p ∈ Tr.pathsL q bs ↔ ∃ i t p', (i, t) ∈ bs ∧ p' ∈ t.paths ∧ p = q ++ i :: p'
  | [] => by simp [Tr.pathsL]
  | (k, u) :: bs => by
    simp only [Tr.pathsL, List.mem_append, List.mem_map, pathsL_mem, List.mem_cons, Prod.mk.injEq]
    constructor
    · rintro (⟨p', h1, rfl⟩ | ⟨i, t, p', h1, h2, rfl⟩)
      · exact ⟨k, u, p', .inl ⟨rfl, rfl⟩, h1, rfl⟩
      · exact ⟨i, t, p', .inr h1, h2, rfl⟩
    · rintro ⟨i, t, p', ⟨rfl, rfl⟩ | h1, h2, rfl⟩
      · exact .inl ⟨p', h2, rfl⟩
      · exact .inr ⟨i, t, p', h1, h2, rfl⟩
theorem paths_mem {q p : List Nat} {bs : List (Nat × Tr)} : p ∈ (Tr.node q bs).paths ↔ (bs = [] ∧ p = q) ∨ ∃ i t p', (i, t) ∈ bs ∧ p' ∈ t.paths ∧ p = q ++ i :: p' := by
  cases bs with
  | nil => simp [Tr.paths]
  | cons b bs => simp only [Tr.paths]; rw [pathsL_mem]; simp
theorem okL_mem {all : Array Oper} {bef : Nat → Nat → Bool} {hs : List Nat} {i : Nat} {t : Tr} : ∀ {bs : List (Nat × Tr)}, Tr.okL all bef hs bs = true → (i, t) ∈ bs → quietO (getO all i) = false ∧ t.ok all bef = true ∧ ∀ p ∈ t.paths, ∀ k ∈ p, quietO (getO all k) = true ∨ k ∈ hs ∨ ∃ j, j ∈ i :: p ∧ bef j k = true ∧ quietO (getO all j) = false
  | [], _, h => by cases h
  | (k, u) :: bs, h, hm => by
    simp only [Tr.okL, Bool.and_eq_true, Bool.not_eq_true'] at h
    obtain ⟨⟨⟨h1, h2⟩, h3⟩, h4⟩ := h
    rcases List.mem_cons.1 hm with heq | hm
    · cases heq
      refine ⟨h1, h2, fun p hp k hk => ?_⟩
      have := List.all_eq_true.1 (List.all_eq_true.1 h3 p hp) k hk
      simp only [Bool.or_eq_true, List.any_eq_true, Bool.and_eq_true, Bool.not_eq_true', List.contains_eq_mem, decide_eq_true_eq] at this
      rcases this with (h | h) | ⟨j, hj, h, h'⟩
      · exact .inl h
      · exact .inr (.inl h)
      · exact .inr (.inr ⟨j, hj, h, h'⟩)
    · exact okL_mem h4 hm
theorem okPath_sub {all : Array Oper} {bef : Nat → Nat → Bool} {p p' : List Nat} (h : okPath all bef p = true) (hs : p'.Sublist p) :
    (∀ i ∈ p', i < all.size ∧ dirTo (getO all i) i = false ∧ ((getO all i).after.all fun ed => !Region.binds .any ed || decide (ed.on < all.size)) = true) ∧ p'.Pairwise (fun a b => pairT all bef a b = true) ∧ ∀ i ∈ p', quietO (getO all i) = false → p'.Pairwise (fun a b => tripOk all bef i a b = true) := by
  simp only [okPath, Bool.and_eq_true] at h
  obtain ⟨⟨c2, c3⟩, c4⟩ := h
  simp only [List.all_eq_true, Bool.and_eq_true, decide_eq_true_eq, Bool.not_eq_true'] at c2
  simp only [List.all_eq_true, Bool.or_eq_true] at c4
  refine ⟨fun i hi => ⟨(c2 i (hs.subset hi)).1.1, (c2 i (hs.subset hi)).1.2, (c2 i (hs.subset hi)).2⟩, (pw_ok c3).sublist hs, fun i hi hq => ?_⟩
  exact (pw_ok ((c4 i (hs.subset hi)).resolve_left (by rw [hq]; decide))).sublist hs
theorem wt_any : ∀ (fuel : Nat) (listed : Array Bool) (q : List Nat) (brs : List (Nat × Tr)) (e : Env) (H : AH), (Tr.node q brs).ok all (befOf all) = true →
    (∀ p ∈ (Tr.node q brs).paths, (∃ p0, okPath all (befOf all) p0 = true ∧ p.Sublist p0) ∧ p.length = fuel ∧ ∀ i, i < all.size → (listed.getD i true = false ↔ i ∈ p)) → listed.size = all.size →
    Closed all (fun i => listed.getD i false) → wt P W0 all (befOf all) Q (.node q brs) [] e H → awpAny P W0 all Q fuel listed e H := by
  intro fuel
  induction fuel with
  | zero =>
    intro listed q brs e H hok hp hz hc h
    have hbn : brs = [] := by
      cases brs with
      | nil => rfl
      | cons b bs =>
        obtain ⟨p', hp'⟩ := List.exists_mem_of_ne_nil _ (Tr.paths_ne b.2)
        have := (hp (q ++ b.1 :: p') (paths_mem.2 (.inr ⟨b.1, b.2, p', List.mem_cons_self .., hp', rfl⟩))).2.1
        simp at this
    subst hbn
    obtain ⟨_, hl, hm⟩ := hp q (paths_mem.2 (.inl ⟨rfl, rfl⟩))
    have : q = [] := List.eq_nil_of_length_eq_zero hl
    subst this
    simp only [wt, wl] at h
    refine ⟨?_, h.1 trivial⟩
    rw [List.eq_nil_iff_forall_not_mem]
    intro i hi
    obtain ⟨h1, o, h2, _⟩ := mem_ready.1 hi
    have := (hm i (Array.getElem?_eq_some_iff.1 h2).1).1 h1
    cases this
  | succ fuel ih =>
    intro listed q brs e H hok hp hz hc h
    have hok' := hok
    simp only [Tr.ok, Bool.and_eq_true] at hok'
    obtain ⟨hqq, hokL⟩ := hok'
    have inb : ∀ j, listed.getD j true = false → j < all.size := by
      intro j hj
      rcases Nat.lt_or_ge j listed.size with h | h
      · omega
      · rw [Array.getD_eq_getD_getElem?, Array.getElem?_eq_none h] at hj; cases hj
    have tt : ∀ j, j < all.size → ¬ listed.getD j true = false → listed.getD j false = true := by
      intro j hj h1
      have h2 : j < listed.size := by omega
      simp only [Array.getD_eq_getD_getElem?, Array.getElem?_eq_getElem h2, Option.getD_some] at h1 ⊢
      simpa using h1
    have ff : ∀ j, j < all.size → listed.getD j true = false → ¬ listed.getD j false = true := by
      intro j hjs h1
      have h2 : j < listed.size := by omega
      simp only [Array.getD_eq_getD_getElem?, Array.getElem?_eq_getElem h2, Option.getD_some] at h1 ⊢
      rw [h1]; decide
    have getg : ∀ j, j < all.size → all[j]? = some (getO all j) := fun j hj => by rw [Array.getElem?_eq_getElem hj]; simp [getO, hj]
    obtain ⟨p1, hp1⟩ := List.exists_mem_of_ne_nil _ (Tr.paths_ne (.node q brs))
    obtain ⟨⟨p0, ho0, hs0⟩, hl1, hm1⟩ := hp p1 hp1
    obtain ⟨a1, a2, a3⟩ := okPath_sub ho0 hs0
    have qsub : ∀ p ∈ (Tr.node q brs).paths, ∃ r, p = q ++ r := by
      intro p hpp
      rcases paths_mem.1 hpp with ⟨_, rfl⟩ | ⟨i, t, p', _, _, rfl⟩
      · exact ⟨[], by simp⟩
      · exact ⟨_, rfl⟩
    obtain ⟨r1, rfl⟩ := qsub p1 hp1
    have qb : ∀ j ∈ q, j < all.size := fun j hj => (a1 j (List.mem_append_left _ hj)).1
    have qquiet : ∀ j ∈ q, ∃ o, all[j]? = some o ∧ quietO o = true := fun j hj => ⟨_, getg j (qb j hj), List.all_eq_true.1 hqq j hj⟩
    simp only [wt] at h
    refine ⟨fun hnil => ?_, fun i hi => ?_⟩
    · exfalso
      cases hr : q ++ r1 with
      | nil => rw [hr] at hl1; simp at hl1
      | cons i l =>
        rw [hr] at a1 a2 hm1
        obtain ⟨hi1, hi2, hi3⟩ := a1 i (List.mem_cons_self ..)
        have : i ∈ Region.ready .any all listed := by
          refine mem_ready.2 ⟨(hm1 i hi1).2 (List.mem_cons_self ..), getO all i, getg i hi1, fun ed he hb => ?_⟩
          have h3 := Array.all_eq_true_iff_forall_mem.1 hi3 ed he
          rw [hb] at h3
          have h3 : ed.on < all.size := by simpa using h3
          refine tt _ h3 fun hmem => ?_
          have hmem := (hm1 _ h3).1 hmem
          have hd : dirTo (getO all i) ed.on = true := by
            obtain ⟨n, hn, rfl⟩ := Array.mem_iff_getElem.1 he
            simp only [dirTo, Array.any_eq_true]
            exact ⟨n, hn, by simp [hb]⟩
          rcases List.mem_cons.1 hmem with heq | hmem
          · rw [heq] at hd
            rw [hd] at hi2; cases hi2
          · have := (List.pairwise_cons.1 a2).1 _ hmem
            simp only [pairT, hd, Bool.not_true, Bool.and_false, Bool.false_and] at this
            cases this
        rw [hnil] at this
        cases this
    · obtain ⟨h1, oi, h2, h3⟩ := mem_ready.1 hi
      have hib := inb i h1
      have hoi := getO_eq h2
      have inp : ∀ p ∈ (Tr.node q brs).paths, i ∈ p := fun p hpp => ((hp p hpp).2.2 i hib).1 h1
      have hdeps : ∀ o, all[i]? = some o → ∀ ed ∈ o.after, Region.binds .any ed = true → listed.getD ed.on false = true := fun o ho ed he hbn => by rw [h2] at ho; injection ho with ho; subst ho; exact h3 ed he hbn
      have notbef : ∀ j, j < all.size → listed.getD j true = false → befOf all j i = false := by
        intro j hjb hj
        cases hb : befOf all j i with
        | false => rfl
        | true =>
          have := hc.reach (befOf_reach hb) hdeps
          exact absurd this (ff j hjb hj)
      have pathnb : ∀ p ∈ (Tr.node q brs).paths, ∀ j ∈ p, befOf all j i = false := by
        intro p hpp j hj
        obtain ⟨⟨p0', ho0', hs0'⟩, _, hm'⟩ := hp p hpp
        have hjb := ((okPath_sub ho0' hs0').1 j hj).1
        exact notbef j hjb ((hm' j hjb).2 hj)
      have listed2 : ∀ m, m < all.size → ∀ (p p' : List Nat), (∀ k, k ∈ p' ↔ k ∈ p ∧ k ≠ i) → (listed.getD m true = false ↔ m ∈ p) → ((listed.setIfInBounds i true).getD m true = false ↔ m ∈ p') := by
        intro m hmz p p' hpp hmm
        rw [listed_set (by omega), hpp]
        split
        · rename_i hmi; simp [hmi]
        · rename_i hmi; rw [hmm]; simp [hmi]
      have closed2 : Closed all (fun k => (listed.setIfInBounds i true).getD k false) := by
        intro m hmt o ho ed he hb
        simp only at hmt ⊢
        rw [listed_set (by omega)] at hmt ⊢
        split
        · rfl
        · split at hmt
          · rename_i hmi
            subst hmi
            exact hdeps o ho ed he hb
          · exact hc m hmt o ho ed he hb
      by_cases hqi : quietO oi = true
      · -- a quiet operation: it stands ahead of all branches
        have hiq : i ∈ q := by
          have hin := inp _ hp1
          rcases paths_mem.1 hp1 with ⟨_, heq⟩ | ⟨k, t, p', hkt, hp', heq⟩
          · rw [heq] at hin; exact hin
          · rw [heq] at hin a2
            rcases List.mem_append.1 hin with hin | hin
            · exact hin
            · exfalso
              have hke := (okL_mem hokL hkt).1
              rcases List.mem_cons.1 hin with rfl | hin
              · rw [hoi, hqi] at hke; cases hke
              · have hpw := (List.pairwise_append.1 a2).2.1
                have := (List.pairwise_cons.1 hpw).1 i hin
                have hnb := pathnb _ hp1 k (by rw [heq]; simp)
                simp [pairT, hnb, hke, hoi, hqi] at this
        obtain ⟨l1, l2, rfl⟩ := List.append_of_mem hiq
        have a2q := (List.pairwise_append.1 a2).1
        rw [List.pairwise_append] at a2q
        obtain ⟨q1, q2, q3⟩ := a2q
        have hmv := move (Q := fun e' H' => (brs = [] → Q e' H') ∧ wts P W0 all (befOf all) Q brs ((l1 ++ i :: l2).reverse ++ []) e' H') (bef := befOf all) h2 l1 [] [] l2 e H ?_ (fun _ h => by cases h) (fun _ h => by cases h) (fun hn => by rw [hqi] at hn; cases hn) h
        · refine ⟨oi, h2, raw1_mono (fun v H' hk => ih (listed.setIfInBounds i true) (l1 ++ l2) brs _ _ ?_ ?_ (by simp [hz]) closed2 ?_) hmv⟩
          · simp only [Tr.ok, Bool.and_eq_true]
            refine ⟨?_, hokL⟩
            rw [List.all_append, List.all_cons] at hqq
            rw [List.all_append]
            simp only [Bool.and_eq_true] at hqq ⊢
            exact ⟨hqq.1, hqq.2.2⟩
          · intro p hpp
            have key : ∃ r, p = (l1 ++ l2) ++ r ∧ (l1 ++ i :: l2) ++ r ∈ (Tr.node (l1 ++ i :: l2) brs).paths := by
              rcases paths_mem.1 hpp with ⟨hb, rfl⟩ | ⟨k, t, p', hkt, hp', rfl⟩
              · exact ⟨[], by simp, paths_mem.2 (.inl ⟨hb, by simp⟩)⟩
              · exact ⟨k :: p', rfl, paths_mem.2 (.inr ⟨k, t, p', hkt, hp', rfl⟩)⟩
            obtain ⟨r, rfl, hr⟩ := key
            obtain ⟨⟨p0', ho0', hs0'⟩, hl', hm'⟩ := hp _ hr
            have hsub : ((l1 ++ l2) ++ r).Sublist ((l1 ++ i :: l2) ++ r) := ((List.Sublist.refl l1).append (List.sublist_cons_self _ _)).append (List.Sublist.refl r)
            have hnd := (okPath_sub ho0' hs0').2.1
            refine ⟨⟨p0', ho0', hsub.trans hs0'⟩, by simp at hl' ⊢; omega, fun m hmz => listed2 m hmz _ _ (fun k => ?_) (hm' m hmz)⟩
            have hne : ∀ k, k ∈ (l1 ++ l2) ++ r → k ≠ i := by
              intro k hkm hki
              rw [hki] at hkm
              rw [List.append_assoc, List.cons_append, List.pairwise_append] at hnd
              obtain ⟨n1, n2, n3⟩ := hnd
              rw [List.append_assoc] at hkm
              rcases List.mem_append.1 hkm with hkm | hkm
              · have := n3 i hkm i (List.mem_cons_self ..)
                simp [pairT] at this
              · have := (List.pairwise_cons.1 n2).1 i hkm
                simp [pairT] at this
            constructor
            · intro hk; exact ⟨hsub.subset hk, hne k hk⟩
            · rintro ⟨hk, hki⟩
              simp only [List.mem_append, List.mem_cons] at hk ⊢
              rcases hk with (hk | hk | hk) | hk
              · exact .inl (.inl hk)
              · exact absurd hk hki
              · exact .inl (.inr hk)
              · exact .inr hk
          · simp only [wt]
            refine wl_monoQ (fun e' H'' hx => ⟨hx.1, wts_hist brs _ _ e' H'' (fun j hj => ?_) hx.2⟩) _ _ _ _ hk.2
            simp only [List.append_nil, List.mem_reverse, List.mem_append, List.mem_cons] at hj ⊢
            rcases hj with hj | hj
            · exact .inl hj
            · exact .inr (.inr hj)
        · intro j hj
          have hp := q3 j hj i (List.mem_cons_self ..)
          have hnb := pathnb _ hp1 j (by simp [hj])
          simp only [pairT, hnb, hoi, hqi, Bool.not_true, Bool.and_false, Bool.false_or, Bool.or_false, Bool.and_eq_true] at hp
          exact ⟨getO all j, getg j (qb j (List.mem_append_left _ hj)), hp.1.2.1, hnb, hp.1.2.2⟩
      · -- one that changes memory: a branch
        have hqi' : quietO oi = false := by simpa using hqi
        obtain ⟨t, hit⟩ : ∃ t, (i, t) ∈ brs := by
          have hin := inp _ hp1
          rcases paths_mem.1 hp1 with ⟨_, heq⟩ | ⟨k, t, p', hkt, hp', heq⟩
          · rw [heq] at hin
            have := List.all_eq_true.1 hqq i hin
            rw [hoi, hqi'] at this; cases this
          · have hnb := pathnb _ hp1
            rw [heq] at hin hnb
            rcases List.mem_append.1 hin with hin | hin
            · have := List.all_eq_true.1 hqq i hin
              rw [hoi, hqi'] at this; cases this
            · rcases List.mem_cons.1 hin with rfl | hin
              · exact ⟨t, hkt⟩
              · rcases (okL_mem hokL hkt).2.2 p' hp' i hin with hx | hx | ⟨j, hj, hx, _⟩
                · rw [hoi, hqi'] at hx; cases hx
                · obtain ⟨⟨i', t'⟩, hm, rfl⟩ := List.mem_map.1 hx
                  exact ⟨t', hm⟩
                · rw [hnb j (List.mem_append_right _ hj)] at hx; cases hx
        obtain ⟨tq, tb⟩ := t
        obtain ⟨hie, htok, _⟩ := okL_mem hokL hit
        have hsn : wl P W0 all (befOf all) (fun e' H' => wt P W0 all (befOf all) Q (.node tq tb) (q.reverse ++ []) e' H') [] (q ++ [i]) e H := by
          refine wl_then q [] [i] e H qquiet (fun e' H' hx => ?_) h
          obtain ⟨o, ho, hr⟩ := wts_mem hx.2 hit
          rw [h2] at ho; injection ho with ho; subst ho
          simp only [wl, h2, hqi', Bool.false_eq_true, if_false]
          exact hr
        obtain ⟨pt, hpt⟩ := List.exists_mem_of_ne_nil _ (Tr.paths_ne (.node tq tb))
        have hpi := paths_mem.2 (.inr ⟨i, .node tq tb, pt, hit, hpt, rfl⟩ : (brs = [] ∧ q ++ i :: pt = q) ∨ ∃ i' t p', (i', t) ∈ brs ∧ p' ∈ t.paths ∧ q ++ i :: pt = q ++ i' :: p')
        obtain ⟨⟨p0', ho0', hs0'⟩, _, _⟩ := hp _ hpi
        obtain ⟨b1, b2, b3⟩ := okPath_sub ho0' hs0'
        have hmv := move (Q := fun e' H' => wt P W0 all (befOf all) Q (.node tq tb) (q.reverse ++ []) e' H') (bef := befOf all) h2 q [] [] [] e H ?_ (fun _ h => by cases h) (fun _ h => by cases h) ?_ hsn
        · refine ⟨oi, h2, raw1_mono (fun v H' hk => ih (listed.setIfInBounds i true) (q ++ tq) tb _ _ ?_ ?_ (by simp [hz]) closed2 ?_) hmv⟩
          · simp only [Tr.ok, Bool.and_eq_true] at htok ⊢
            exact ⟨by rw [List.all_append, hqq, htok.1]; rfl, htok.2⟩
          · intro p hpp
            have key : ∃ r, p = q ++ r ∧ r ∈ (Tr.node tq tb).paths := by
              rcases paths_mem.1 hpp with ⟨hb, rfl⟩ | ⟨k, u, p', hku, hp', rfl⟩
              · exact ⟨tq, rfl, paths_mem.2 (.inl ⟨hb, rfl⟩)⟩
              · exact ⟨tq ++ k :: p', by simp, paths_mem.2 (.inr ⟨k, u, p', hku, hp', rfl⟩)⟩
            obtain ⟨r, rfl, hr⟩ := key
            obtain ⟨⟨p0', ho0', hs0'⟩, hl', hm'⟩ := hp _ (paths_mem.2 (.inr ⟨i, .node tq tb, r, hit, hr, rfl⟩))
            have hsub : (q ++ r).Sublist (q ++ i :: r) := (List.Sublist.refl q).append (List.sublist_cons_self _ _)
            have hnd := (okPath_sub ho0' hs0').2.1
            refine ⟨⟨p0', ho0', hsub.trans hs0'⟩, by simp at hl' ⊢; omega, fun m hmz => listed2 m hmz _ _ (fun k => ?_) (hm' m hmz)⟩
            rw [List.pairwise_append] at hnd
            obtain ⟨n1, n2, n3⟩ := hnd
            have hne : ∀ k, k ∈ q ++ r → k ≠ i := by
              intro k hkm hki
              rw [hki] at hkm
              rcases List.mem_append.1 hkm with hkm | hkm
              · have := n3 i hkm i (List.mem_cons_self ..)
                simp [pairT] at this
              · have := (List.pairwise_cons.1 n2).1 i hkm
                simp [pairT] at this
            constructor
            · intro hk; exact ⟨hsub.subset hk, hne k hk⟩
            · rintro ⟨hk, hki⟩
              simp only [List.mem_append, List.mem_cons] at hk ⊢
              rcases hk with hk | hk | hk
              · exact .inl hk
              · exact absurd hk hki
              · exact .inr hk
          · have hk2 := hk.2
            simp only [List.append_nil] at hk2
            simp only [wt] at hk2 ⊢
            refine wl_then q [] tq _ _ qquiet (fun e' H'' hx => ?_) hk2
            simp only [List.append_nil] at hx ⊢
            refine wl_monoQ (fun e'' H3 hy => ⟨hy.1, wts_hist tb _ _ _ _ (fun j hj => ?_) hy.2⟩) _ _ _ _ hx
            simpa [List.reverse_append] using hj
        · intro j hj
          have hp := (List.pairwise_append.1 b2).2.2 j hj i (List.mem_cons_self ..)
          have hnb := pathnb _ hp1 j (List.mem_append_left _ hj)
          have hjq := List.all_eq_true.1 hqq j hj
          simp only [pairT, hnb, hoi, hqi', hjq, Bool.not_true, Bool.false_and, Bool.false_or, Bool.or_false, Bool.true_and, Bool.and_eq_true] at hp
          exact ⟨getO all j, getg j (qb j hj), hjq, hnb, hp.1.2⟩
        · intro _
          refine ⟨?_, fun _ h => by cases h⟩
          have hq := b3 i (by simp) hie
          have hq := (List.pairwise_append.1 hq).1
          refine hq.imp_of_mem ?_
          intro j k hj hk ht a b ha hb
          have hnj := pathnb _ hp1 j (List.mem_append_left _ hj)
          have hnk := pathnb _ hp1 k (List.mem_append_left _ hk)
          have hp := (List.pairwise_append.1 b2).2.2 k hk i (List.mem_cons_self ..)
          simp only [pairT, Bool.and_eq_true, Bool.not_eq_true'] at hp
          simp only [tripOk, hnj, hnk, hp.1.1.1, Bool.false_or] at ht
          rw [getO_eq ha, getO_eq hb] at ht
          exact ht
/-- A region whose order is drawn: one order by which the others go; or a tree of orders. -/
def adraw (P : Program) (W0 : World) (ops : Array Oper) (Q : Env → AH → Prop) (e : Env) (H : AH) : Prop :=
  P.follows .mixedOrders = true ∧ ((∃ ord : List Nat, okDraw ops ord = true ∧ ord.length = ops.size ∧ wl P W0 ops (befOf ops) Q [] ord e H) ∨ ∃ t : Tr, okTree ops t = true ∧ wt P W0 ops (befOf ops) Q t [] e H)
theorem adraw_any {ops : Array Oper} {e : Env} {H : AH} (h : adraw P W0 ops Q e H) : P.follows .mixedOrders = true ∧ awpAny P W0 ops Q ops.size (Array.replicate ops.size false) e H := by
  have hclo : Closed ops (fun i => (Array.replicate ops.size false).getD i false) := by
    intro i hi
    simp only [Array.getD_eq_getD_getElem?, Array.getElem?_replicate] at hi
    split at hi <;> cases hi
  obtain ⟨hf, ⟨ord, hok, hl, h⟩ | ⟨⟨q, brs⟩, hok, h⟩⟩ := h
  · refine ⟨hf, wl_any hok ops.size _ ord e H (List.Sublist.refl _) hl (by simp) ?_ hclo h⟩
    intro i hi
    simp only [okDraw, Bool.and_eq_true, List.all_eq_true, List.mem_range] at hok
    have := hok.1.1.1 i hi
    simp only [Array.getD_eq_getD_getElem?, Array.getElem?_replicate, hi, if_true, Option.getD_some, true_iff]
    simpa using this
  · simp only [okTree, Bool.and_eq_true, List.all_eq_true, List.mem_range] at hok
    refine ⟨hf, wt_any ops.size _ q brs e H hok.1 (fun p hp => ?_) (by simp) hclo h⟩
    obtain ⟨⟨h1, h2⟩, h3⟩ := hok.2 p hp
    refine ⟨⟨p, h2, List.Sublist.refl _⟩, by simpa using h3, fun i hi => ?_⟩
    have := h1 i hi
    simp only [Array.getD_eq_getD_getElem?, Array.getElem?_replicate, hi, if_true, Option.getD_some, true_iff]
    simpa using this
end Go.Proofs.Ythcjolappblieaa.Aw
