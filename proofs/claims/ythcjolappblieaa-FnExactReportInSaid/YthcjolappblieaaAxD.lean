/- The calculus 'Aw' at work, part 3b: regions whose order is drawn, stepped through in one order. -/
import Derived.Test.YthcjolappblieaaAx3
namespace Go.Proofs.Ythcjolappblieaa.Aw
open Go Go.RowKit
set_option linter.unusedVariables false
set_option linter.unusedSimpArgs false
set_option linter.unusedSectionVars false
variable {P : Program} {W0 : World} {all : Array Oper} {Q : Env → AH → Prop}

theorem upd_same {e : Env} {t : Nat} {v : AV} (h : e t = v) : upd e t v = e := by
  funext u; simp only [upd]; split
  · subst_vars; rfl
  · rfl
/-- The step of 'aops', told with 'raw1'. -/
theorem aops_raw {o : Oper} {os : List Oper} {e : Env} {H : AH} : aops P W0 all (o :: os) Q e H = raw1 P W0 all o e H fun v H' => aops P W0 all os Q (putA o.dst v e) H' := by
  unfold raw1 want1
  simp only [aops]
  cases hg : o.guard with
  | none => rfl
  | some g =>
    obtain ⟨j, w⟩ := g
    simp only
    cases ht : gtmp all j with
    | none => rfl
    | some t =>
      simp only
      cases hv : e t with
      | v x =>
        cases x with
        | bool b =>
          simp only
          by_cases hb : b = w
          · subst hb
            simp only [if_true, upd_same hv, beq_self_eq_true]
          · have h1 : (b == w) = false := by simpa using hb
            have h2 : (!w) = b := by cases b <;> cases w <;> simp_all
            simp only [hb, if_false, h1, h2, upd_same hv]
        | _ => rfl
      | _ => rfl
def okQ (ops : Array Oper) : Bool := okDraw ops (List.range ops.size) && ops.all quietO
theorem wl_quiet {bef : Nat → Nat → Bool} (hq : ∀ o ∈ all.toList, quietO o = true) : ∀ (os : List Oper) (i : Nat) (hist : List Nat) (e : Env) (H : AH), (∀ k, os[k]? = all[i + k]?) → aops P W0 all os Q e H → wl P W0 all bef Q hist ((List.range os.length).map (i + ·)) e H
  | [], i, hist, e, H, hi, h => h
  | o :: os, i, hist, e, H, hi, h => by
    have hl : (List.range (o :: os).length).map (i + ·) = i :: (List.range os.length).map (i + 1 + ·) := by
      rw [List.length_cons, List.range_succ_eq_map, List.map_cons, List.map_map]
      congr 1
      apply List.map_congr_left
      intro k _
      simp; omega
    have ho : all[i]? = some o := by have := hi 0; simpa using this.symm
    rw [hl]
    simp only [wl, ho]
    rw [if_pos (hq o (Array.mem_toList_iff.2 (Array.mem_of_getElem? ho)))]
    rw [aops_raw] at h
    exact raw1_mono (fun v H' hk => wl_quiet hq os (i + 1) _ _ _ (fun k => by have := hi (k + 1); simpa [Nat.add_assoc, Nat.add_comm 1 k] using this) hk) h
/-- A drawn region without any operation that changes memory. -/
theorem adraw_quiet {ops : Array Oper} {e : Env} {H : AH} (hf : P.follows .mixedOrders = true) (h : okQ ops = true) (k : aops P W0 ops ops.toList Q e H) : adraw P W0 ops Q e H := by
  simp only [okQ, Bool.and_eq_true] at h
  refine ⟨hf, .inl ⟨List.range ops.size, h.1, by simp, ?_⟩⟩
  have := wl_quiet (P := P) (W0 := W0) (all := ops) (Q := Q) (bef := befOf ops) (fun o ho => Array.all_eq_true_iff_forall_mem.1 h.2 o (Array.mem_toList_iff.1 ho)) ops.toList 0 [] e H (fun k => by simp) k
  simpa using this

class Ko where k : Oper → Prop
theorem Ko.k_mk (K : Oper → Prop) : (Ko.mk K).k = K := rfl
def aat (o : Option Oper) [K : Ko] : Prop := match o with | some o => K.k o | none => False
theorem aat_some {K : Ko} (o : Oper) : aat (some o) = K.k o := rfl
def opAt (all : Array Oper) (i : Nat) : Option Oper := all[i]?
theorem opAt_zero (o : Oper) (os : List Oper) : opAt (List.toArray (o :: os)) 0 = some o := by simp [opAt]
theorem opAt_succ (o : Oper) (os : List Oper) (i : Nat) : opAt (List.toArray (o :: os)) (i + 1) = opAt (List.toArray os) i := by simp [opAt]
/-- One operation, its value handed on. -/
def ag1 (P : Program) (W0 : World) (all : Array Oper) (o : Oper) (e : Env) (H : AH) (R : AV → AH → Prop) : Prop := raw1 P W0 all o e H R
theorem ag1_none (dst : Option Nat) (op : Op) (ty : TypeId) (pos : String) (after : Array Edge) (e : Env) (H : AH) (R : AV → AH → Prop) : ag1 P W0 all ⟨dst, op, ty, pos, after, none⟩ e H R = aop P W0 op e H R := rfl
theorem ag1_some (dst : Option Nat) (op : Op) (ty : TypeId) (pos : String) (after : Array Edge) (j : Nat) (w : Bool) (e : Env) (H : AH) (R : AV → AH → Prop) :
    ag1 P W0 all ⟨dst, op, ty, pos, after, some (j, w)⟩ e H R = agt (gtmp all j) (K := ⟨fun t => agrd (e t) w (K := ⟨aop P W0 op e H R, R (.v undef) H, R (.v undef) H⟩)⟩) := by
  simp only [ag1, raw1, want1]
  cases ht : gtmp all j with
  | none => rfl
  | some t =>
    simp only [agt]
    cases hv : e t with
    | v x =>
      cases x with
      | bool b => simp only [agrd]; cases b <;> cases w <;> simp
      | _ => rfl
    | _ => rfl
def dstEq (d : Option Nat) (e : Env) (v : AV) : Prop := match d with | some t => v = e t | none => True
theorem dstEq_some (t : Nat) (e : Env) (v : AV) : dstEq (some t) e v = (v = e t) := rfl
theorem dstEq_none (e : Env) (v : AV) : dstEq none e v = True := rfl
def rechecks (P : Program) (W0 : World) (all : Array Oper) : List Nat → Env → AH → Prop
  | [], _, _ => True
  | j :: cs, e, H => aat (opAt all j) (K := ⟨fun o => ag1 P W0 all o e H fun v H' => H' = H ∧ dstEq o.dst e v⟩) ∧ rechecks P W0 all cs e H
theorem rechecks_nil (e : Env) (H : AH) : rechecks P W0 all [] e H = True := rfl
theorem rechecks_cons (j : Nat) (cs : List Nat) (e : Env) (H : AH) : rechecks P W0 all (j :: cs) e H = (aat (opAt all j) (K := ⟨fun o => ag1 P W0 all o e H fun v H' => H' = H ∧ dstEq o.dst e v⟩) ∧ rechecks P W0 all cs e H) := rfl
/-- A drawn region in one order; with each operation, what is to be looked at again behind it. -/
def awi (P : Program) (W0 : World) (all : Array Oper) (Q : Env → AH → Prop) : List (Nat × List Nat) → Env → AH → Prop
  | [], e, H => Q e H
  | (i, cs) :: l, e, H => aat (opAt all i) (K := ⟨fun o => ag1 P W0 all o e H fun v H' => rechecks P W0 all cs (putA o.dst v e) H' ∧ awi P W0 all Q l (putA o.dst v e) H'⟩)
theorem awi_nil (e : Env) (H : AH) : awi P W0 all Q [] e H = Q e H := rfl
theorem awi_cons (i : Nat) (cs : List Nat) (l : List (Nat × List Nat)) (e : Env) (H : AH) :
    awi P W0 all Q ((i, cs) :: l) e H = aat (opAt all i) (K := ⟨fun o => ag1 P W0 all o e H fun v H' => rechecks P W0 all cs (putA o.dst v e) H' ∧ awi P W0 all Q l (putA o.dst v e) H'⟩) := rfl
def planOk (all : Array Oper) (bef : Nat → Nat → Bool) : List Nat → List (Nat × List Nat) → Bool
  | _, [] => true
  | hist, (i, cs) :: l => if quietO (getO all i) then planOk all bef (i :: hist) l else hist.all (fun j => bef j i || cs.contains j) && planOk all bef hist l
def okPlan (ops : Array Oper) (pl : List (Nat × List Nat)) : Bool := okDraw ops (pl.map (·.1)) && pl.length == ops.size && planOk ops (befOf ops) [] pl
theorem rechecks_mem : ∀ {cs : List Nat} {e : Env} {H : AH}, rechecks P W0 all cs e H → ∀ j ∈ cs, ∀ o, all[j]? = some o → recheck P W0 all o e H
  | [], e, H, _, j, hj, _, _ => by cases hj
  | k :: cs, e, H, h, j, hj, o, ho => by
    rcases List.mem_cons.1 hj with rfl | hj
    · have h1 := h.1
      simp only [opAt, ho, aat, ag1] at h1
      refine raw1_mono ?_ h1
      rintro v H' ⟨rfl, hd⟩
      refine ⟨rfl, fun t ht => ?_⟩
      rw [ht] at hd; exact hd
    · exact rechecks_mem h.2 j hj o ho
theorem awi_wl {bef : Nat → Nat → Bool} : ∀ (pl : List (Nat × List Nat)) (hist : List Nat) (e : Env) (H : AH), planOk all bef hist pl = true → awi P W0 all Q pl e H → wl P W0 all bef Q hist (pl.map (·.1)) e H
  | [], hist, e, H, _, h => h
  | (i, cs) :: pl, hist, e, H, hp, h => by
    simp only [awi, opAt] at h
    simp only [List.map_cons, wl]
    cases ho : all[i]? with
    | none => rw [ho] at h; exact h
    | some o =>
      rw [ho] at h
      simp only [aat, ag1] at h ⊢
      simp only [planOk, getO_eq ho] at hp
      split
      · rename_i hq
        rw [if_pos hq] at hp
        exact raw1_mono (fun v H' hk => awi_wl pl _ _ _ hp hk.2) h
      · rename_i hq
        rw [if_neg hq] at hp
        simp only [Bool.and_eq_true, List.all_eq_true, Bool.or_eq_true] at hp
        refine raw1_mono (fun v H' hk => ⟨fun j hj hb o ho => ?_, awi_wl pl _ _ _ hp.2 hk.2⟩) h
        have := (hp.1 j hj).resolve_left (by rw [hb]; decide)
        exact rechecks_mem hk.1 j (by simpa using this) o ho
theorem adraw_plan {ops : Array Oper} {e : Env} {H : AH} (pl : List (Nat × List Nat)) (hf : P.follows .mixedOrders = true) (h : okPlan ops pl = true) (k : awi P W0 ops Q pl e H) : adraw P W0 ops Q e H := by
  simp only [okPlan, Bool.and_eq_true] at h
  exact ⟨hf, .inl ⟨pl.map (·.1), h.1.1, by simpa using h.1.2, awi_wl pl [] e H h.2 k⟩⟩
/-! ### A tree of orders -/
inductive Tp where
  | node (q : List Nat) (brs : List (Nat × List Nat × Tp))
mutual
def Tp.tr : Tp → Tr
  | .node q brs => .node q (Tp.trL brs)
def Tp.trL : List (Nat × List Nat × Tp) → List (Nat × Tr)
  | [] => []
  | (i, _, t) :: bs => (i, t.tr) :: Tp.trL bs
end
mutual
def Tp.ok (bef : Nat → Nat → Bool) : List Nat → Tp → Bool
  | hist, .node q brs => Tp.okL bef (q.reverse ++ hist) brs
def Tp.okL (bef : Nat → Nat → Bool) : List Nat → List (Nat × List Nat × Tp) → Bool
  | _, [] => true
  | hist, (i, cs, t) :: bs => hist.all (fun j => bef j i || cs.contains j) && t.ok bef hist && Tp.okL bef hist bs
end
mutual
def awt (P : Program) (W0 : World) (all : Array Oper) (Q : Env → AH → Prop) : Tp → Env → AH → Prop
  | .node q brs, e, H => awi P W0 all (fun e' H' => (brs = [] → Q e' H') ∧ awts P W0 all Q brs e' H') (q.map fun i => (i, [])) e H
def awts (P : Program) (W0 : World) (all : Array Oper) (Q : Env → AH → Prop) : List (Nat × List Nat × Tp) → Env → AH → Prop
  | [], _, _ => True
  | (i, cs, t) :: bs, e, H => aat (opAt all i) (K := ⟨fun o => ag1 P W0 all o e H fun v H' => rechecks P W0 all cs (putA o.dst v e) H' ∧ awt P W0 all Q t (putA o.dst v e) H'⟩) ∧ awts P W0 all Q bs e H
end
theorem awt_cons (i : Nat) (q : List Nat) (brs : List (Nat × List Nat × Tp)) (e : Env) (H : AH) : awt P W0 all Q (.node (i :: q) brs) e H = aat (opAt all i) (K := ⟨fun o => ag1 P W0 all o e H fun v H' => awt P W0 all Q (.node q brs) (putA o.dst v e) H'⟩) := by
  simp only [awt, List.map_cons, awi_cons]
  have : (fun o : Oper => ag1 P W0 all o e H fun v H' => rechecks P W0 all [] (putA o.dst v e) H' ∧ awi P W0 all (fun e' H' => (brs = [] → Q e' H') ∧ awts P W0 all Q brs e' H') (q.map fun i => (i, [])) (putA o.dst v e) H') =
      fun o => ag1 P W0 all o e H fun v H' => awt P W0 all Q (.node q brs) (putA o.dst v e) H' := by
    funext o
    congr 1
    funext v H'
    simp [rechecks_nil, awt]
  rw [this]
theorem awt_nil (e : Env) (H : AH) : awt P W0 all Q (.node [] []) e H = Q e H := by simp [awt, awi, awts]
theorem awt_brs (b : Nat × List Nat × Tp) (bs : List (Nat × List Nat × Tp)) (e : Env) (H : AH) : awt P W0 all Q (.node [] (b :: bs)) e H = awts P W0 all Q (b :: bs) e H := by simp [awt, awi]
theorem awts_one (i : Nat) (cs : List Nat) (t : Tp) (e : Env) (H : AH) : awts P W0 all Q [(i, cs, t)] e H = aat (opAt all i) (K := ⟨fun o => ag1 P W0 all o e H fun v H' => rechecks P W0 all cs (putA o.dst v e) H' ∧ awt P W0 all Q t (putA o.dst v e) H'⟩) := by simp [awts]
theorem awts_cons (i : Nat) (cs : List Nat) (t : Tp) (b : Nat × List Nat × Tp) (bs : List (Nat × List Nat × Tp)) (e : Env) (H : AH) : awts P W0 all Q ((i, cs, t) :: b :: bs) e H =
    (aat (opAt all i) (K := ⟨fun o => ag1 P W0 all o e H fun v H' => rechecks P W0 all cs (putA o.dst v e) H' ∧ awt P W0 all Q t (putA o.dst v e) H'⟩) ∧ awts P W0 all Q (b :: bs) e H) := by simp [awts]
theorem awi_wlq {bef : Nat → Nat → Bool} {Q' : Env → AH → Prop} : ∀ (q hist : List Nat) (e : Env) (H : AH), (∀ j ∈ q, quietO (getO all j) = true) → (∀ e' H', Q e' H' → Q' e' H') → awi P W0 all Q (q.map fun i => (i, [])) e H → wl P W0 all bef Q' hist q e H
  | [], hist, e, H, _, hk, h => hk _ _ h
  | i :: q, hist, e, H, hq, hk, h => by
    simp only [List.map_cons, awi, opAt] at h
    simp only [wl]
    cases ho : all[i]? with
    | none => rw [ho] at h; exact h
    | some o =>
      rw [ho] at h
      simp only [aat, ag1] at h ⊢
      have hqi := hq i (List.mem_cons_self ..)
      rw [getO_eq ho] at hqi
      rw [if_pos hqi]
      exact raw1_mono (fun v H' h' => awi_wlq q _ _ _ (fun j hj => hq j (List.mem_cons_of_mem _ hj)) hk h'.2) h
theorem trL_nil {bs : List (Nat × List Nat × Tp)} : Tp.trL bs = [] ↔ bs = [] := by
  cases bs with
  | nil => simp [Tp.trL]
  | cons b bs => obtain ⟨i, cs, t⟩ := b; simp [Tp.trL]
mutual
theorem awt_wt {bef : Nat → Nat → Bool} : ∀ (t : Tp) (hist : List Nat) (e : Env) (H : AH), t.ok bef hist = true → t.tr.ok all bef = true → awt P W0 all Q t e H → wt P W0 all bef Q t.tr hist e H
  | .node q brs, hist, e, H, hp, ht, h => by
    simp only [Tp.ok] at hp
    simp only [Tp.tr, Tr.ok, Bool.and_eq_true] at ht
    simp only [awt] at h
    simp only [Tp.tr, wt]
    exact awi_wlq q hist e H (fun j hj => List.all_eq_true.1 ht.1 j hj) (fun e' H' hk => ⟨fun hb => hk.1 (trL_nil.1 hb), awts_wts brs _ e' H' hp ht.2 hk.2⟩) h
theorem awts_wts {bef : Nat → Nat → Bool} {hs : List Nat} : ∀ (bs : List (Nat × List Nat × Tp)) (hist : List Nat) (e : Env) (H : AH), Tp.okL bef hist bs = true → Tr.okL all bef hs (Tp.trL bs) = true → awts P W0 all Q bs e H → wts P W0 all bef Q (Tp.trL bs) hist e H
  | [], _, _, _, _, _, _ => trivial
  | (i, cs, t) :: bs, hist, e, H, hp, ht, h => by
    simp only [Tp.okL, Bool.and_eq_true, List.all_eq_true, Bool.or_eq_true] at hp
    simp only [Tp.trL, Tr.okL, Bool.and_eq_true] at ht
    simp only [awts, opAt] at h
    simp only [Tp.trL, wts]
    refine ⟨?_, awts_wts bs hist e H hp.2 ht.2 h.2⟩
    have h1 := h.1
    cases ho : all[i]? with
    | none => rw [ho] at h1; exact h1
    | some o =>
      rw [ho] at h1
      simp only [aat, ag1] at h1 ⊢
      refine raw1_mono (fun v H' hk => ⟨fun j hj hb o ho => ?_, awt_wt t hist _ _ hp.1.2 ht.1.1.2 hk.2⟩) h1
      have := (hp.1.1 j hj).resolve_left (by rw [hb]; decide)
      exact rechecks_mem hk.1 j (by simpa using this) o ho
end
def okTp (ops : Array Oper) (t : Tp) : Bool := okTree ops t.tr && t.ok (befOf ops) []
theorem adraw_tree {ops : Array Oper} {e : Env} {H : AH} (t : Tp) (hf : P.follows .mixedOrders = true) (h : okTp ops t = true) (k : awt P W0 ops Q t e H) : adraw P W0 ops Q e H := by
  simp only [okTp, Bool.and_eq_true] at h
  refine ⟨hf, .inr ⟨t.tr, h.1, awt_wt t [] e H h.2 ?_ k⟩⟩
  have := h.1
  simp only [okTree, Bool.and_eq_true] at this
  exact this.1
attribute [go_sem ↓] awt_cons awt_nil awt_brs awts_one awts_cons
attribute [go_sem ↓] awi_nil awi_cons ag1_none ag1_some
attribute [go_sem] aat_some opAt_zero opAt_succ dstEq_some dstEq_none rechecks_nil rechecks_cons
end Go.Proofs.Ythcjolappblieaa.Aw
