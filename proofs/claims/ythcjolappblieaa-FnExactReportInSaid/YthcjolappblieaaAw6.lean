/- The calculus 'Aw', part 6: the theorem of one operation. -/
import Derived.Test.YthcjolappblieaaAw5
namespace Go.Proofs.Ythcjolappblieaa.Aw
open Go Go.RowKit
set_option linter.unusedVariables false
set_option linter.unusedSimpArgs false
set_option linter.unusedSectionVars false
variable {P : Program} {W0 W : World} {φ : Phi} {H : AH} {K : AV → AH → Prop} {e : Env}

section
variable {ρ : Operand → Value} {o : Oper}
theorem OpOk.val {y : Value} {W' : World} (hr : (execOp ρ o).run P W = .ok (.value y) W') (hg : Good W0 φ K y W') : OpOk P W0 φ K ρ o W := .inl ⟨y, W', hr, hg⟩
/-- An operation that is one instruction. -/
theorem OpOk.ins {s : Sem Value} (ho : execOp ρ o = (do pure (.value (← s)) : Sem Next)) {y : Value} {W' : World} (hr : s.run P W = .ok y W') (hg : Good W0 φ K y W') : OpOk P W0 φ K ρ o W :=
  .val (by rw [ho]; simp [hr]) hg
end

/-- Operands. -/
def VE (φ : Phi) (e : Env) (ρ : Operand → Value) : Prop := ∀ x, VR φ (ev e x) (ρ x)
theorem VE.list {φ : Phi} {e : Env} {ρ : Operand → Value} (h : VE φ e ρ) (xs : List Operand) : VRs φ (xs.map (ev e)) (xs.map ρ) := by
  induction xs with
  | nil => exact .nil
  | cons x xs ih => exact .cons (h x) ih
theorem VR.bool {φ : Phi} {b : Bool} {y : Value} (h : VR φ (.v (.bool b)) y) : y = .bool b := by cases h; rfl

theorem callable_run {f : FuncId} (h : callable P f = true) (args : Array Value) (W : World) : (callFunc f args).run P W = .ok (.enter f args) W := by
  unfold callable at h
  split at h
  · rename_i fn hf
    simp only [Bool.and_eq_true, bne_iff_ne, ne_eq] at h
    have h1 : (fn.name == "runtime.NumGoroutine") = false := by simpa using h.1
    have h2 : fn.body.isNone = false := by
      have := h.2
      cases hb : fn.body <;> simp_all
    have h3 : ¬ fn.name = "runtime.NumGoroutine" := h.1
    have h4 : ¬ fn.body = none := by intro hb; rw [hb] at h2; cases h2
    simp [callFunc, hf, h3, h4]
  · cases h
theorem call_ok (hI : Inv W0 φ H W) {g : FuncId} {xs : List AV} {ys : List Value} (hv : VRs φ xs ys) (hc : ACalls P W0 g xs H K) {ρ : Operand → Value} {o : Oper} (ho : ∀ W, (execOp ρ o).run P W = (callFunc g ys.toArray).run P W) : OpOk P W0 φ K ρ o W := by
  obtain ⟨hcl, hc⟩ := hc
  refine .inr (.inr ⟨g, ys.toArray, W, by rw [ho]; exact callable_run hcl _ _, (hc φ W ys hI hv).mono fun e W' ⟨y, v, H', φ', he, h1, h2, h3, h4⟩ => ⟨y, he, v, H', φ', h1, h2, h3, h4⟩⟩)
theorem callG_ok (hI : Inv W0 φ H W) {g : FuncId} {xs : List AV} {ys : List Value} (hv : VRs φ xs ys) (hc : ACallG P W0 g xs H K) {ρ : Operand → Value} {o : Oper} (ho : ∀ W, (execOp ρ o).run P W = (callFunc g ys.toArray).run P W) : OpOk P W0 φ K ρ o W := by
  rcases hc with hc | hc
  · exact call_ok hI hv hc ho
  · obtain ⟨y, W', hr, v, H', φ', h1, h2, h3, h4⟩ := hc φ W ys hI hv
    exact .inl ⟨y, W', by rw [ho]; exact hr, v, H', φ', h1, h2, h3, h4⟩

theorem parts_ok {φ : Phi} {e : Env} {ρ : Operand → Value} (h : VE φ e ρ) (parts : Array (Nat × Operand)) :
    (parts.toList.map fun p => (p.1, ev e p.2)).map (·.1) = ((parts.map fun (i, x) => (i, ρ x)).toList).map (·.1) ∧ VRs φ ((parts.toList.map fun p => (p.1, ev e p.2)).map (·.2)) (((parts.map fun (i, x) => (i, ρ x)).toList).map (·.2)) := by
  constructor
  · simp [Function.comp_def]
  · have := h.list (parts.toList.map (·.2))
    simpa [Function.comp_def] using this

theorem eqBool {t : TypeId} (hu : P.underlying t = some .bool) (a b : Bool) (W : World) : (Op.equal t (.bool a) (.bool b)).run P W = .ok (a == b) W := by
  show (Op.equalIn (9999 + 1) t (.bool a) (.bool b)).run P W = _
  unfold Op.equalIn
  simp only [Sem.run_bind, run_underlying hu, Result.andThen_ok, Sem.run_pure]
theorem eqSlice {t el : TypeId} (hu : P.underlying t = some (.slice el)) (A : Option Addr) (n c n' c' : Nat) (W : World) : (Op.equal t (.slice A n c) (.slice none n' c')).run P W = .ok A.isNone W := by
  show (Op.equalIn (9999 + 1) t (.slice A n c) (.slice none n' c')).run P W = _
  unfold Op.equalIn
  cases A <;> simp only [Sem.run_bind, run_underlying hu, Result.andThen_ok, Sem.run_pure] <;> rfl
theorem binOp_ok (hI : Inv W0 φ H W) {ρ : Operand → Value} (hρ : VE φ e ρ) {op : BinOp} {t yt : TypeId} {x y : Operand} (h : aop P W0 (.binOp op t x y yt) e H K) : ∃ u, (do eqGuard op t x y (ρ x) (ρ y); binOp op t (ρ x) (ρ y) : Sem Value).run P W = .ok u W ∧ Good W0 φ K u W := by
  have hx := hρ x
  have hy := hρ y
  simp only [aop] at h
  split at h
  · rename_i a b h1 h2
    rw [h1] at hx
    rw [h2] at hy
    have e1 := hx.bool
    have e2 := hy.bool
    split at h
    · rename_i hu
      refine ⟨_, ?_, good_same hI (.v _) h⟩
      simp [e1, e2, eqGuard_at_bool, binOp, eqBool hu]
    · rename_i hu
      refine ⟨_, ?_, good_same hI (.v _) h⟩
      simp [e1, e2, eqGuard_at_bool, binOp, eqBool hu]
    · exact h.elim
  · rename_i a b hnb h1 h2
    rw [h1] at hx
    rw [h2] at hy
    cases hx
    cases hy
    split at h
    · rename_i r hr
      exact ⟨r, abin_run hr t x y W, good_same hI (.v _) h⟩
    · split at h
      · rename_i a' n c n' c' e1 e2 _
        obtain ⟨he, h⟩ := h
        obtain ⟨el, he⟩ := Option.isSome_iff_exists.1 he
        refine ⟨_, ?_, good_same hI (.v _) h⟩
        rw [e1, e2]
        cases a' <;> simp [eqGuard_at_slice, binOp, eqSlice (elt_run he)]
      · rename_i a' n c n' c' e1 e2 _
        obtain ⟨he, h⟩ := h
        obtain ⟨el, he⟩ := Option.isSome_iff_exists.1 he
        refine ⟨_, ?_, good_same hI (.v _) h⟩
        rw [e1, e2]
        cases a' <;> simp [eqGuard_at_slice, binOp, eqSlice (elt_run he)]
      · exact h.elim
  · rename_i b o n n' c' h1 h2
    rw [h1] at hx
    rw [h2] at hy
    generalize ρ x = yx at hx ⊢
    generalize ρ y = yy at hy ⊢
    cases hy
    cases hx with
    | sl hp hnc hcap =>
      split at h
      · obtain ⟨he, h⟩ := h
        obtain ⟨el, he⟩ := Option.isSome_iff_exists.1 he
        refine ⟨_, ?_, good_same hI (.v _) h⟩
        simp [eqGuard_at_slice, binOp, eqSlice (elt_run he)]
      · obtain ⟨he, h⟩ := h
        obtain ⟨el, he⟩ := Option.isSome_iff_exists.1 he
        refine ⟨_, ?_, good_same hI (.v _) h⟩
        simp [eqGuard_at_slice, binOp, eqSlice (elt_run he)]
      · exact h.elim
  · rename_i l l' h1 h2
    rw [h1] at hx
    rw [h2] at hy
    have hg : ∀ (xs ys : List Value) (r : Bool), EqAt P t xs ys r → (eqGuard .eql t x y (.agg xs.toArray) (.agg ys.toArray)).run P W = .ok () W ∧ (eqGuard .neq t x y (.agg xs.toArray) (.agg ys.toArray)).run P W = .ok () W ∧ (Op.equal t (.agg xs.toArray) (.agg ys.toArray)).run P W = .ok r W := by
      intro xs ys r h
      exact ⟨h.1 W, h.1 W, h.2 W⟩
    split at h
    · obtain ⟨xs, ys, r, rfl, rfl, hE, h⟩ := h
      obtain ⟨g1, g2, g3⟩ := hg xs ys r hE
      generalize ρ x = yx at hx ⊢
      generalize ρ y = yy at hy ⊢
      cases hx with
      | agg hx =>
        cases hy with
        | agg hy =>
          rw [hx.reverse_eq, hy.reverse_eq]
          refine ⟨_, ?_, good_same hI (.v _) h⟩
          simp only [Sem.run_bind, g1, Result.andThen_ok, binOp, g3, Sem.run_pure]
    · obtain ⟨xs, ys, r, rfl, rfl, hE, h⟩ := h
      obtain ⟨g1, g2, g3⟩ := hg xs ys r hE
      generalize ρ x = yx at hx ⊢
      generalize ρ y = yy at hy ⊢
      cases hx with
      | agg hx =>
        cases hy with
        | agg hy =>
          rw [hx.reverse_eq, hy.reverse_eq]
          refine ⟨_, ?_, good_same hI (.v _) h⟩
          simp only [Sem.run_bind, g2, Result.andThen_ok, binOp, g3, Sem.run_pure]
    · exact h.elim
  · exact h.elim
end Go.Proofs.Ythcjolappblieaa.Aw
