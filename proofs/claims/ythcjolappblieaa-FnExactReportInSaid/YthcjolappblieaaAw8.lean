/- The calculus 'Aw', part 8: regions, code, calls. -/
import Derived.Test.YthcjolappblieaaAwD
namespace Go.Proofs.Ythcjolappblieaa.Aw
open Go Go.RowKit
set_option linter.unusedVariables false
set_option linter.unusedSimpArgs false
set_option linter.unusedSectionVars false

/-- Operations one behind the other. A guard that is decided is noted in the frame. -/
def aops (P : Program) (W0 : World) (all : Array Oper) : List Oper → (Env → AH → Prop) → Env → AH → Prop
  | [], Q, e, H => Q e H
  | o :: os, Q, e, H =>
    match o.guard with
    | none => aop P W0 o.op e H fun v H' => aops P W0 all os Q (putA o.dst v e) H'
    | some (j, want) =>
      match gtmp all j with
      | some t =>
        match e t with
        | .v (.bool b) =>
          if b = want then aop P W0 o.op (upd e t (.v (.bool want))) H fun v H' => aops P W0 all os Q (putA o.dst v (upd e t (.v (.bool want)))) H'
          else aops P W0 all os Q (putA o.dst (.v undef) (upd e t (.v (.bool !want)))) H
        | .v (.tuple _) => aops P W0 all os Q (putA o.dst (.v undef) e) H
        | _ => False
      | none => False

inductive AX where
  | normal
  | exit (n : Nat)
  | ret

mutual
/-- A value leads to no block from n on. -/
def refsLt (n : Nat) : AV → Prop
  | .v _ => True
  | .dead => True
  | .ptr b _ => b < n
  | .sl b _ _ => b < n
  | .slc b _ _ _ => b < n
  | .sl0 => True
  | .agg l => refsLts n l
  | .tup l => refsLts n l
  | .fn _ l => refsLts n l
def refsLts (n : Nat) : List AV → Prop
  | [] => True
  | a :: l => refsLt n a ∧ refsLts n l
end
/-- Memory may be forgotten: blocks that are no longer asked for; slots that are not read any more. -/
def FgtH (N0 : Nat) (H H1 : AH) : Prop := H1 = H ∨
  N0 ≤ H1.nxt ∧ (∀ b B, H1.blk b = some B → H.blk b = some B) ∧ H1.wf ∧ (H1.nxt = H.nxt ∨ H1.nxt ≤ H.nxt ∧ ∀ b B, H1.blk b = some B → refsLts H1.nxt B.cells)
def FgtV (H H1 : AH) (v : AV) : Prop := H1.nxt = H.nxt ∨ refsLt H1.nxt v
def Fgt (N0 : Nat) (e : Env) (H : AH) (e1 : Env) (H1 : AH) : Prop := FgtH N0 H H1 ∧ ∀ t, e1 t = .dead ∨ e1 t = e t ∧ FgtV H H1 (e1 t)

def loopQ (I : Env → AH → Prop) (Q : AX → Env → AH → Prop) : AX → Env → AH → Prop
  | .normal, e, H => I e H
  | .exit n, e, H => Q (.exit n) e H
  | .ret, e, H => Q .ret e H
def blockQ (id : Nat) (Q : AX → Env → AH → Prop) : AX → Env → AH → Prop
  | .exit j, e, H => if j = id then Q .normal e H else Q (.exit j) e H
  | .normal, e, H => Q .normal e H
  | .ret, e, H => Q .ret e H
/-- A loop's head: some invariant, told by a number that falls. -/
def Head (N0 : Nat) (I : Nat → Env → AH → Prop) (n : Nat) (e : Env) (H : AH) : Prop := ∃ m e1 H1, m < n ∧ Fgt N0 e H e1 H1 ∧ I m e1 H1
def acode (P : Program) (W0 : World) (N0 : Nat) : Code → (AX → Env → AH → Prop) → Env → AH → Prop
  | .skip, Q, e, H => Q .normal e H
  | .region _ ops draw, Q, e, H => if draw = true then adraw P W0 ops (Q .normal) e H else aops P W0 ops ops.toList (Q .normal) e H
  | .seq a b, Q, e, H => acode P W0 N0 a (loopQ (acode P W0 N0 b Q) Q) e H
  | .cond c a b, Q, e, H => match ev e c with
    | .v (.bool t) => if t = true then acode P W0 N0 a Q e H else acode P W0 N0 b Q e H
    | _ => False
  | .block id c, Q, e, H => acode P W0 N0 c (blockQ id Q) e H
  | .loop c, Q, e, H => ∃ (I : Nat → Env → AH → Prop) (n : Nat), Head N0 I n e H ∧ ∀ n e H, I n e H → acode P W0 N0 c (loopQ (Head N0 I n) Q) e H
  | .exit id, Q, e, H => Q (.exit id) e H
  | .ret, Q, e, H => Q .ret e H
  | _, Q, e, H => False
def dstsOk (n : Nat) : Code → Bool
  | .region _ ops _ => ops.all fun o => match o.dst with | some t => decide (t < n) | none => true
  | .seq a b => dstsOk n a && dstsOk n b
  | .cond _ a b => dstsOk n a && dstsOk n b
  | .block _ c => dstsOk n c
  | .loop c => dstsOk n c
  | _ => true

variable {P : Program} {W0 : World}

mutual
theorem VR.cut {φ : Phi} {n : Nat} : {a : AV} → {y : Value} → VR φ a y → refsLt n a → VR (fun b => if b < n then φ b else none) a y
  | _, _, .v x, _ => .v x
  | _, _, .ptr h, hr => .ptr (by simp only [refsLt] at hr; simp only [hr, if_true]; exact h)
  | _, _, .sl h1 h2 h3, hr => .sl (by simp only [refsLt] at hr; simp only [hr, if_true]; exact h1) h2 h3
  | _, _, .slc h1 h2 h3, hr => .slc (by simp only [refsLt] at hr; simp only [hr, if_true]; exact h1) h2 h3
  | _, _, .sl0 a, _ => .sl0 a
  | _, _, .agg h, hr => .agg (VRs.cut h hr)
  | _, _, .tup h, hr => .tup (VRs.cut h hr)
  | _, _, .fn h, hr => .fn (VRs.cut h hr)
  | _, _, .dead y, _ => .dead y
theorem VRs.cut {φ : Phi} {n : Nat} : {l : List AV} → {ys : List Value} → VRs φ l ys → refsLts n l → VRs (fun b => if b < n then φ b else none) l ys
  | _, _, .nil, _ => .nil
  | _, _, .cons h k, hr => .cons (VR.cut h hr.1) (VRs.cut k hr.2)
end
theorem refsLts_get {n : Nat} : {l : List AV} → refsLts n l → ∀ (i : Nat) (a : AV), l[i]? = some a → refsLt n a
  | [], _, i, a, h => by simp at h
  | b :: l, hr, 0, a, h => by simp at h; exact h ▸ hr.1
  | b :: l, hr, i + 1, a, h => refsLts_get hr.2 i a (by simpa using h)

/-- Memory is forgotten. -/
theorem Inv.forget {W : World} {φ0 φ : Phi} {N0 : Nat} {H H1 : AH} (hI : Inv W0 φ H W) (h : FgtH N0 H H1) (hx : Ext φ0 φ) (h00 : ∀ b, N0 ≤ b → φ0 b = none) :
    ∃ φ1, Inv W0 φ1 H1 W ∧ Ext φ0 φ1 ∧ ∀ v y, FgtV H H1 v → VR φ v y → VR φ1 v y := by
  rcases h with h | ⟨hN, h1, h2, h3⟩
  · subst h; exact ⟨φ, hI, hx, fun _ _ _ hv => hv⟩
  have h0 : ∀ b, H1.nxt ≤ b → φ0 b = none := fun b hb => h00 b (Nat.le_trans hN hb)
  have sub : ∀ b, (H1.blk b).isSome = true → (H.blk b).isSome = true := by
    intro b hb
    obtain ⟨B, hB⟩ := Option.isSome_iff_exists.1 hb
    rw [h1 b B hB]; rfl
  rcases h3 with h3 | ⟨h3, h4⟩
  · exact ⟨φ, ⟨hI.below, fun b B hB => hI.blks b B (h1 b B hB), fun b b' p p' hb hb' => hI.inj b b' p p' (sub b hb) (sub b' hb'), h2, fun b hb => hI.non b (by omega)⟩, hx, fun v y _ hv => hv⟩
  · by_cases heq : H1.nxt = H.nxt
    · exact ⟨φ, ⟨hI.below, fun b B hB => hI.blks b B (h1 b B hB), fun b b' p p' hb hb' => hI.inj b b' p p' (sub b hb) (sub b' hb'), h2, fun b hb => hI.non b (by omega)⟩, hx, fun v y _ hv => hv⟩
    refine ⟨fun b => if b < H1.nxt then φ b else none, ⟨hI.below, ?_, ?_, h2, ?_⟩, ?_, ?_⟩
    · intro b B hB
      have hb : b < H1.nxt := by
        rcases Nat.lt_or_ge b H1.nxt with h | h
        · exact h
        · rw [h2 b h] at hB; cases hB
      obtain ⟨p, k0, k1, k2, k3, C, e, k4, k5, k6⟩ := hI.blks b B (h1 b B hB)
      refine ⟨p, by simp only [hb, if_true]; exact k0, k1, k2, k3, C, e, k4, k5, fun j v hj => ?_⟩
      obtain ⟨y, hy, hv⟩ := k6 j v hj
      exact ⟨y, hy, hv.cut (refsLts_get (h4 b B hB) j v hj)⟩
    · intro b b' p p' hb hb' hp hp'
      have e1 : φ b = some p := by
        split at hp
        · exact hp
        · cases hp
      have e2 : φ b' = some p' := by
        split at hp'
        · exact hp'
        · cases hp'
      exact hI.inj b b' p p' (sub b hb) (sub b' hb') e1 e2
    · intro b hb
      rw [if_neg (by omega)]
    · intro b p hp
      have hb : b < H1.nxt := by
        rcases Nat.lt_or_ge b H1.nxt with h | h
        · exact h
        · rw [h0 b h] at hp; cases hp
      simp only [hb, if_true]
      exact hx b p hp
    · intro v y hv hvr
      rcases hv with hv | hv
      · exact absurd hv heq
      · exact hvr.cut hv

/-- The frame, held against the machine's. -/
structure Rel (W0 : World) (φ0 φ : Phi) (e : Env) (H : AH) (a : Act) (W : World) (n : Nat) : Prop where
  inv : Inv W0 φ H W
  er : ER φ e a.tmps
  ext : Ext φ0 φ
  defers : a.defers = []
  size : a.tmps.size = n

theorem getD_set (t : Array Value) (d i : Nat) (v : Value) (h : d < t.size) : (t.setIfInBounds d v).getD i undef = if i = d then v else t.getD i undef := by
  by_cases hi : i = d
  · subst hi
    simp [h]
  · rw [if_neg hi]
    by_cases h2 : i < t.size
    · simp [Array.getElem_setIfInBounds, h2, Ne.symm hi]
    · simp [h2]
theorem ER.put {φ : Phi} {e : Env} {a : Act} (h : ER φ e a.tmps) {dst : Option Nat} (hd : ∀ t, dst = some t → t < a.tmps.size) {v : AV} {y : Value} (hv : VR φ v y) : ER φ (putA dst v e) (a.put dst y).tmps := by
  cases dst with
  | none => exact h
  | some d =>
    intro t
    simp only [putA, upd, Act.put]
    rw [getD_set _ _ _ _ (hd d rfl)]
    split
    · exact hv
    · exact h t
theorem ER.ve {φ : Phi} {e : Env} {a : Act} (h : ER φ e a.tmps) : VE φ e a.eval := fun x => h.ev x
theorem ER.same {φ : Phi} {e : Env} {t : Array Value} (h : ER φ e t) {d : Nat} {b : Bool} (hd : e d = .v (.bool b)) : ER φ (upd e d (.v (.bool b))) t := by
  intro i
  simp only [upd]
  split
  · subst_vars; rw [← hd]; exact h _
  · exact h i
theorem Rel.put {φ0 φ φ' : Phi} {e : Env} {H H' : AH} {a : Act} {W W' : World} {n : Nat} (h : Rel W0 φ0 φ e H a W n) (hI : Inv W0 φ' H' W') (hx : Ext φ φ') {dst : Option Nat} (hd : ∀ t, dst = some t → t < n) {v : AV} {y : Value} (hv : VR φ' v y) :
    Rel W0 φ0 φ' (putA dst v e) H' (a.put dst y) W' n := by
  refine ⟨hI, (h.er.ext hx).put (by rw [h.size]; exact hd) hv, h.ext.trans hx, ?_, ?_⟩
  · cases dst <;> exact h.defers
  · cases dst <;> simp [Act.put, h.size]

def XM : AX → Exit → Prop
  | .normal, .normal => True
  | .exit n, .exit m => n = m
  | .ret, .ret => True
  | _, _ => False
def CQ (W0 : World) (φ0 : Phi) (n : Nat) (Q : AX → Env → AH → Prop) : Exit → Act → World → Prop := fun x a W => ∃ ax e H φ, XM ax x ∧ Rel W0 φ0 φ e H a W n ∧ Q ax e H

theorem op_step {φ0 φ : Phi} {e : Env} {H : AH} {a : Act} {W : World} {n : Nat} (hr : Rel W0 φ0 φ e H a W n) {o : Oper} (hd : ∀ t, o.dst = some t → t < n) {K : AV → AH → Prop} (h : aop P W0 o.op e H K) {next : Act → World → Prop} {Q : Exit → Act → World → Prop}
    (hk : ∀ v H' φ' a' W', K v H' → Rel W0 φ0 φ' (putA o.dst v e) H' a' W' n → next a' W') : o.wp P a W next Q := by
  unfold Oper.wp
  rcases aop_ok hr.inv hr.er.ve h with ⟨y, W', h1, v, H', φ', h2, h3, h4, h5⟩ | ⟨W', h1, v, H', φ', h2, h3, h4, h5⟩ | ⟨f, args, W', h1, h2⟩
  · rw [h1, Oper.upon_value]
    exact hk v H' φ' _ _ h5 (hr.put h3 h4 hd h2)
  · rw [h1, Oper.upon_skip]
    exact hk v H' φ' _ _ h5 (hr.put h3 h4 hd h2)
  · rw [h1, Oper.upon_enter]
    refine h2.mono ?_
    rintro ee W'' ⟨y, rfl, v, H', φ', h2, h3, h4, h5⟩
    exact hk v H' φ' _ _ h5 (hr.put h3 h4 hd h2)

theorem wanted_none {o : Oper} (h : o.guard = none) (y : Nat → Option Bool) : Region.wanted o y = true := by simp [Region.wanted, h]
theorem yielded_bool {φ : Phi} {e : Env} {a : Act} {all : Array Oper} {j t : Nat} {b : Bool} (her : ER φ e a.tmps) (ht : gtmp all j = some t) (hb : e t = .v (.bool b)) : yielded all a.tmps j = some b := by
  have h1 := her t
  rw [hb] at h1
  have h2 := h1.v_eq
  unfold yielded
  unfold gtmp at ht
  rw [ht]
  simp only [Option.bind_some]
  have : a.tmps[t]? = some (.bool b) := by
    rw [Array.getD_eq_getD_getElem?] at h2
    cases hq : a.tmps[t]? with
    | none => rw [hq] at h2; cases h2
    | some v => rw [hq] at h2; simp at h2; rw [h2]
  rw [this]
theorem yielded_tuple {φ : Phi} {e : Env} {a : Act} {all : Array Oper} {j t : Nat} {vs : Array Value} (her : ER φ e a.tmps) (ht : gtmp all j = some t) (hb : e t = .v (.tuple vs)) : yielded all a.tmps j = none := by
  have h1 := her t
  rw [hb] at h1
  have h2 := h1.v_eq
  unfold yielded
  unfold gtmp at ht
  rw [ht]
  simp only [Option.bind_some]
  cases hq : a.tmps[t]? with
  | none => rfl
  | some v =>
    rw [Array.getD_eq_getD_getElem?, hq] at h2
    simp at h2
    subst h2
    rfl

theorem ops_sound {φ0 : Phi} {n : Nat} {all : Array Oper} {Q : Env → AH → Prop} {CQ' : Exit → Act → World → Prop} (hq : ∀ φ e H a W, Q e H → Rel W0 φ0 φ e H a W n → CQ' .normal a W) :
    ∀ (os : List Oper) (i : Nat), (∀ k, os[k]? = all[i + k]?) → (∀ o ∈ os, ∀ t, o.dst = some t → t < n) → ∀ (φ : Phi) (e : Env) (H : AH) (a : Act) (W : World), Rel W0 φ0 φ e H a W n → aops P W0 all os Q e H →
      wpOps P all CQ' ((List.range os.length).map (i + ·)) a W
  | [], i, hi, hd, φ, e, H, a, W, hr, h => hq φ e H a W h hr
  | o :: os, i, hi, hd, φ, e, H, a, W, hr, h => by
    have ih := fun φ e H a W => ops_sound (φ0 := φ0) (n := n) (all := all) (CQ' := CQ') hq os (i + 1) (fun k => by have := hi (k + 1); simpa [Nat.add_assoc, Nat.add_comm 1 k] using this) (fun o ho => hd o (List.mem_cons_of_mem _ ho)) φ e H a W
    have hl : (List.range (o :: os).length).map (i + ·) = i :: (List.range os.length).map (i + 1 + ·) := by
      rw [List.length_cons, List.range_succ_eq_map, List.map_cons, List.map_map]
      congr 1
      apply List.map_congr_left
      intro k _
      simp; omega
    have ho : all[i]? = some o := by have := hi 0; simpa using this.symm
    have hdo := hd o (List.mem_cons_self ..)
    rw [hl]
    simp only [wpOps, ho]
    simp only [aops] at h
    split at h
    · rename_i hg
      rw [if_pos (wanted_none hg _)]
      exact .inl (op_step hr hdo h fun v H' φ' a' W' hk hr' => ih _ _ _ _ _ hr' hk)
    · rename_i j want hg
      split at h
      case h_2 => exact h.elim
      rename_i t ht
      split at h
      · rename_i b hb
        have hy := yielded_bool hr.er ht hb
        by_cases hbw : b = want
        · rw [if_pos hbw] at h
          subst hbw
          have hr2 : Rel W0 φ0 φ (upd e t (.v (.bool b))) H a W n := ⟨hr.inv, hr.er.same hb, hr.ext, hr.defers, hr.size⟩
          rw [if_pos (by simp [Region.wanted, hg, hy])]
          exact .inl (op_step hr2 hdo h fun v H' φ' a' W' hk hr' => ih _ _ _ _ _ hr' hk)
        · rw [if_neg hbw] at h
          have hbn : (!want) = b := by cases b <;> cases want <;> simp_all
          rw [hbn] at h
          have hr2 : Rel W0 φ0 φ (upd e t (.v (.bool b))) H a W n := ⟨hr.inv, hr.er.same hb, hr.ext, hr.defers, hr.size⟩
          rw [if_neg (by simp [Region.wanted, hg, hy, hbw])]
          exact ih _ _ _ _ _ (hr2.put hr.inv (Ext.refl _) hdo (.v undef)) h
      · rename_i vs hb
        have hy := yielded_tuple hr.er ht hb
        rw [if_neg (by simp [Region.wanted, hg, hy])]
        exact ih _ _ _ _ _ (hr.put hr.inv (Ext.refl _) hdo (.v undef)) h
      · exact h.elim

theorem any_sound {φ0 : Phi} {n : Nat} {ops : Array Oper} {Q : Env → AH → Prop} {CQ' : Exit → Act → World → Prop} (hq : ∀ φ e H a W, Q e H → Rel W0 φ0 φ e H a W n → CQ' .normal a W)
    (hd : ∀ o ∈ ops.toList, ∀ t, o.dst = some t → t < n) : ∀ (f : Nat) (listed : Array Bool) (φ : Phi) (e : Env) (H : AH) (a : Act) (W : World), Rel W0 φ0 φ e H a W n → awpAny P W0 ops Q f listed e H → wpAny P .any ops CQ' f listed a W
  | 0, listed, φ, e, H, a, W, hr, h => ⟨h.1, hq _ _ _ _ _ h.2 hr⟩
  | f + 1, listed, φ, e, H, a, W, hr, h => by
    refine ⟨fun hn => hq _ _ _ _ _ (h.1 hn) hr, fun i hi => ?_⟩
    obtain ⟨o, ho, hraw⟩ := h.2 i hi
    have hdo := hd o (Array.mem_toList_iff.2 (Array.mem_of_getElem? ho))
    have ih := any_sound hq hd f (listed.setIfInBounds i true)
    simp only [wpOp, ho]
    unfold raw1 at hraw
    have hw : ∀ b, want1 ops e o = some b → Region.wanted o (yielded ops a.tmps) = b := by
      intro b hb
      unfold want1 at hb
      split at hb
      · rename_i hg
        injection hb with hb
        rw [wanted_none hg, hb]
      · rename_i j w hg
        split at hb
        · rename_i t ht
          split at hb
          · rename_i c hc
            injection hb with hb
            simp [Region.wanted, hg, yielded_bool hr.er ht hc, ← hb]
          · rename_i vs hc
            injection hb with hb
            simp [Region.wanted, hg, yielded_tuple hr.er ht hc, ← hb]
          · cases hb
        · cases hb
    split at hraw
    · rename_i hb
      rw [if_pos (hw _ hb)]
      exact .inl (op_step hr hdo hraw fun v H' φ' a' W' hk hr' => ih _ _ _ _ _ hr' hk)
    · rename_i hb
      rw [if_neg (by rw [hw _ hb]; decide)]
      exact ih _ _ _ _ _ (hr.put hr.inv (Ext.refl _) hdo (.v undef)) hraw
    · exact hraw.elim
theorem draw_sound {φ0 : Phi} {n : Nat} {id : Nat} {ops : Array Oper} {Q : Env → AH → Prop} {CQ' : Exit → Act → World → Prop} (hq : ∀ φ e H a W, Q e H → Rel W0 φ0 φ e H a W n → CQ' .normal a W)
    (hd : ∀ o ∈ ops.toList, ∀ t, o.dst = some t → t < n) {φ : Phi} {e : Env} {H : AH} {a : Act} {W : World} (hr : Rel W0 φ0 φ e H a W n) (h : adraw P W0 ops Q e H) : (Code.region id ops true).wp P CQ' a W := by
  obtain ⟨hf, h⟩ := adraw_any h
  exact wp_region_any hf (any_sound hq hd _ _ φ e H a _ ⟨hr.inv.drawn _, hr.er, hr.ext, hr.defers, hr.size⟩ h)

/-- A loop from its head on. -/
def LoopWp (P : Program) (c : Code) (Q : Exit → Act → World → Prop) (a : Act) (w : World) : Prop :=
  ∀ (b : Frame) (k : List Item) (cs : List Frame), ∃ e a' w', Q e a' w' ∧ Arrives P (lone (b.at a (.code c :: .inLoop c :: k)) cs w) b k cs e a' w'
theorem wp_of_loopWp {c : Code} {Q : Exit → Act → World → Prop} {a : Act} {w : World} (h : LoopWp P c Q a w) : (Code.loop c).wp P Q a w :=
  fun b k cs => let ⟨e, a', w', q, r⟩ := h b k cs; ⟨e, a', w', q, .of_steps (.one step_loop) r⟩
theorem loopWp_step {c : Code} {Q : Exit → Act → World → Prop} {a : Act} {w : World} (h : c.wp P (Exit.then (LoopWp P c Q) Q) a w) : LoopWp P c Q a w := by
  intro b k cs
  obtain ⟨e, a1, w1, hq, harr⟩ := h b (.inLoop c :: k) cs
  cases e with
  | normal =>
    obtain ⟨e2, a2, w2, hq2, harr2⟩ := hq b k cs
    exact ⟨e2, a2, w2, hq2, .of_steps (Steps.trans harr (.one step_inLoop)) harr2⟩
  | exit id => exact ⟨_, a1, w1, hq, .pass (x := .inLoop c) rfl (fun _ _ => .inl (by simp)) harr⟩
  | goto l => exact ⟨_, a1, w1, hq, .pass (x := .inLoop c) rfl (fun _ _ => .inl (by simp)) harr⟩
  | ret => exact ⟨_, a1, w1, hq, .pass (x := .inLoop c) rfl (fun _ _ => .inl (by simp)) harr⟩
  | panic ch => exact ⟨_, a1, w1, hq, .pass (x := .inLoop c) rfl (fun _ _ => .inl (by simp)) harr⟩
  | outgrown => exact ⟨_, a1, w1, hq, .pass (x := .inLoop c) rfl (fun _ _ => .inl (by simp)) harr⟩

theorem CQ.exit {φ0 : Phi} {n : Nat} {Q : AX → Env → AH → Prop} {id : Nat} {a : Act} {W : World} : CQ W0 φ0 n Q (.exit id) a W ↔ ∃ e H φ, Rel W0 φ0 φ e H a W n ∧ Q (.exit id) e H := by
  constructor
  · rintro ⟨ax, e, H, φ, hx, hr, hq⟩
    cases ax <;> simp only [XM] at hx
    subst hx
    exact ⟨e, H, φ, hr, hq⟩
  · rintro ⟨e, H, φ, hr, hq⟩
    exact ⟨.exit id, e, H, φ, rfl, hr, hq⟩
theorem CQ.normal {φ0 : Phi} {n : Nat} {Q : AX → Env → AH → Prop} {a : Act} {W : World} : CQ W0 φ0 n Q .normal a W ↔ ∃ e H φ, Rel W0 φ0 φ e H a W n ∧ Q .normal e H := by
  constructor
  · rintro ⟨ax, e, H, φ, hx, hr, hq⟩
    cases ax <;> simp only [XM] at hx
    exact ⟨e, H, φ, hr, hq⟩
  · rintro ⟨e, H, φ, hr, hq⟩
    exact ⟨.normal, e, H, φ, trivial, hr, hq⟩
theorem CQ.ret {φ0 : Phi} {n : Nat} {Q : AX → Env → AH → Prop} {a : Act} {W : World} : CQ W0 φ0 n Q .ret a W ↔ ∃ e H φ, Rel W0 φ0 φ e H a W n ∧ Q .ret e H := by
  constructor
  · rintro ⟨ax, e, H, φ, hx, hr, hq⟩
    cases ax <;> simp only [XM] at hx
    exact ⟨e, H, φ, hr, hq⟩
  · rintro ⟨e, H, φ, hr, hq⟩
    exact ⟨.ret, e, H, φ, trivial, hr, hq⟩
theorem CQ.then {φ0 : Phi} {n : Nat} {I : Env → AH → Prop} {Q : AX → Env → AH → Prop} {next : Act → World → Prop} (hn : ∀ e H φ a W, I e H → Rel W0 φ0 φ e H a W n → next a W) :
    ∀ x a W, CQ W0 φ0 n (loopQ I Q) x a W → Exit.then next (CQ W0 φ0 n Q) x a W := by
  intro x a W h
  cases x with
  | normal =>
    obtain ⟨e, H, φ, hr, hq⟩ := CQ.normal.1 h
    exact hn e H φ a W hq hr
  | exit id =>
    obtain ⟨e, H, φ, hr, hq⟩ := CQ.exit.1 h
    exact CQ.exit.2 ⟨e, H, φ, hr, hq⟩
  | ret =>
    obtain ⟨e, H, φ, hr, hq⟩ := CQ.ret.1 h
    exact CQ.ret.2 ⟨e, H, φ, hr, hq⟩
  | _ => obtain ⟨ax, e, H, φ, hx, hr, hq⟩ := h; cases ax <;> simp only [XM] at hx

theorem code_sound {N0 n : Nat} {φ0 : Phi} (h0 : ∀ b, N0 ≤ b → φ0 b = none) : ∀ (c : Code) (Q : AX → Env → AH → Prop) (φ : Phi) (e : Env) (H : AH) (a : Act) (W : World), dstsOk n c = true → Rel W0 φ0 φ e H a W n → acode P W0 N0 c Q e H →
    c.wp P (CQ W0 φ0 n Q) a W := by
  intro c
  induction c with
  | skip => intro Q φ e H a W hd hr h; exact wp_skip (CQ.normal.2 ⟨e, H, φ, hr, h⟩)
  | region id ops draw =>
    intro Q φ e H a W hd hr h
    have hdo : ∀ o ∈ ops.toList, ∀ t, o.dst = some t → t < n := by
      intro o ho t ht
      simp only [dstsOk, Array.all_eq_true_iff_forall_mem] at hd
      have := hd o (Array.mem_toList_iff.1 ho)
      rw [ht] at this
      simpa using this
    have hq : ∀ φ e H a W, Q .normal e H → Rel W0 φ0 φ e H a W n → CQ W0 φ0 n Q .normal a W := fun φ e H a W hq hr => CQ.normal.2 ⟨e, H, φ, hr, hq⟩
    simp only [acode] at h
    cases draw with
    | true => exact draw_sound hq hdo hr (by simpa using h)
    | false =>
      simp only [Bool.false_eq_true, if_false] at h
      refine wp_region ?_
      have := ops_sound (P := P) (all := ops) (CQ' := CQ W0 φ0 n Q) hq ops.toList 0 (fun k => by simp) hdo φ e H a W hr h
      simpa using this
  | seq x y ihx ihy =>
    intro Q φ e H a W hd hr h
    simp only [dstsOk, Bool.and_eq_true] at hd
    refine wp_seq (wp_mono (ihx _ φ e H a W hd.1 hr h) ?_)
    exact CQ.then fun e H φ a W hi hr => ihy Q φ e H a W hd.2 hr hi
  | cond c x y ihx ihy =>
    intro Q φ e H a W hd hr h
    simp only [dstsOk, Bool.and_eq_true] at hd
    simp only [acode] at h
    split at h
    · rename_i t ht
      have h1 := hr.er.ve c
      rw [ht] at h1
      have h2 := h1.v_eq
      cases t with
      | true => exact wp_cond h2 (ihx Q φ e H a W hd.1 hr (by simpa using h))
      | false => exact wp_cond h2 (ihy Q φ e H a W hd.2 hr (by simpa using h))
    · exact h.elim
  | block id c ih =>
    intro Q φ e H a W hd hr h
    refine wp_block (wp_mono (ih _ φ e H a W hd hr h) ?_)
    intro x a W hc
    cases x with
    | normal => obtain ⟨e, H, φ, hr, hq⟩ := CQ.normal.1 hc; exact CQ.normal.2 ⟨e, H, φ, hr, hq⟩
    | ret => obtain ⟨e, H, φ, hr, hq⟩ := CQ.ret.1 hc; exact CQ.ret.2 ⟨e, H, φ, hr, hq⟩
    | exit j =>
      obtain ⟨e, H, φ, hr, hq⟩ := CQ.exit.1 hc
      simp only [blockQ] at hq
      simp only [Exit.inBlock]
      split at hq
      · rename_i hj; rw [if_pos hj]; exact CQ.normal.2 ⟨e, H, φ, hr, hq⟩
      · rename_i hj; rw [if_neg hj]; exact CQ.exit.2 ⟨e, H, φ, hr, hq⟩
    | _ => obtain ⟨ax, e, H, φ, hx, hr, hq⟩ := hc; cases ax <;> simp only [XM] at hx
  | loop c ih =>
    intro Q φ e H a W hd hr h
    obtain ⟨I, m, hh, hround⟩ := h
    refine wp_of_loopWp ?_
    have key : ∀ m e H φ a W, I m e H → Rel W0 φ0 φ e H a W n → LoopWp P c (CQ W0 φ0 n Q) a W := by
      intro m
      induction m using Nat.strongRecOn with
      | _ m ihm =>
        intro e H φ a W hi hr
        refine loopWp_step (wp_mono (ih _ φ e H a W hd hr (hround m e H hi)) ?_)
        refine CQ.then fun e H φ a W hh hr => ?_
        obtain ⟨m', e1, H1, hm, hf, hi1⟩ := hh
        obtain ⟨φ1, k1, k2, k3⟩ := hr.inv.forget hf.1 hr.ext h0
        refine ihm m' hm e1 H1 φ1 a W hi1 ⟨k1, fun t => ?_, k2, hr.defers, hr.size⟩
        rcases hf.2 t with hz | ⟨hz, hv⟩
        · rw [hz]; exact .dead _
        · exact k3 _ _ hv (by rw [hz]; exact hr.er t)
    obtain ⟨m', e1, H1, hm, hf, hi1⟩ := hh
    obtain ⟨φ1, k1, k2, k3⟩ := hr.inv.forget hf.1 hr.ext h0
    refine key m' e1 H1 φ1 a W hi1 ⟨k1, fun t => ?_, k2, hr.defers, hr.size⟩
    rcases hf.2 t with hz | ⟨hz, hv⟩
    · rw [hz]; exact .dead _
    · exact k3 _ _ hv (by rw [hz]; exact hr.er t)
  | exit id => intro Q φ e H a W hd hr h; exact wp_exit (CQ.exit.2 ⟨e, H, φ, hr, h⟩)
  | ret => intro Q φ e H a W hd hr h; exact wp_ret (CQ.ret.2 ⟨e, H, φ, hr, h⟩)
  | _ => intros; rename_i h; exact h.elim

/-- What a function hands back. -/
def resOne (P : Program) (W0 : World) (e : Env) (H : AH) : ResultVar → Option AV
  | .tmp t => some (e t)
  | .cell a t => match tyi P t with
    | some i => if i.agg = true ∨ i.size = 1 then (rdCells W0 H i.size (e a)).map (mkv i.agg) else none
    | none => none
def resAll (P : Program) (W0 : World) (rs : List ResultVar) (e : Env) (H : AH) : Option (List AV) := rs.mapM (resOne P W0 e H)
def retA (P : Program) (W0 : World) (N0 : Nat) (rs : List ResultVar) (R : AV → AH → Prop) : AX → Env → AH → Prop
  | .exit _, e, H => False
  | _, e, H => match resAll P W0 rs e H with
    | some [v] => ∃ H1, FgtH N0 H H1 ∧ FgtV H H1 v ∧ R v H1
    | some l => ∃ H1, FgtH N0 H H1 ∧ FgtV H H1 (.tup l) ∧ R (.tup l) H1
    | none => False
def env0 (args : List AV) : Env := fun t => args.getD t (.v undef)

def resSem (tmps : Array Value) : ResultVar → Sem Value
  | .tmp t => pure (tmps.getD t undef)
  | .cell a t => do loadVar t (← asAddr (tmps.getD a undef))
theorem results_eq (fn : Func) (tmps : Array Value) : results fn tmps = (do
    let vs ← fn.results.mapM (resSem tmps)
    pure (if h : vs.size = 1 then vs[0] else .tuple vs) : Sem Value) := by
  unfold results
  congr 2
theorem resAll_run {rs : List ResultVar} {φ : Phi} {e : Env} {H : AH} {a : Act} {W : World} (hI : Inv W0 φ H W) (her : ER φ e a.tmps) {l : List AV} (h : resAll P W0 rs e H = some l) :
    ∃ ys, (rs.mapM (resSem a.tmps)).run P W = .ok ys W ∧ VRs φ l ys := by
  unfold resAll at h
  induction rs generalizing l with
  | nil => simp at h; subst h; exact ⟨[], rfl, .nil⟩
  | cons r rs ih =>
    simp only [List.mapM_cons, Option.bind_eq_bind, Option.bind_eq_some_iff] at h
    obtain ⟨v, hv, l', hl', hl⟩ := h
    cases hl
    obtain ⟨ys, hys, hvs⟩ := ih hl'
    have h1 : ∃ y, (resSem a.tmps r).run P W = .ok y W ∧ VR φ v y := by
      cases r with
      | tmp t => simp only [resOne, Option.some.injEq] at hv; subst hv; exact ⟨_, rfl, her t⟩
      | cell a' t =>
        simp only [resOne] at hv
        split at hv
        · rename_i i hi
          split at hv
          · rename_i ha
            simp only [Option.map_eq_some_iff] at hv
            obtain ⟨cs, hcs, rfl⟩ := hv
            obtain ⟨u, hu, hvu⟩ := load_run hI hi ha (her a') hcs
            obtain ⟨ad, _, hy, _⟩ := hI.rd (her a') hcs
            refine ⟨u, ?_, hvu⟩
            rw [hy] at hu
            simp only [resSem, hy]
            simpa [Instr.loadAt, Instr.sureAddr, asAddr] using hu
          · cases hv
        · cases hv
    obtain ⟨y, hy, hvy⟩ := h1
    refine ⟨y :: ys, ?_, .cons hvy hvs⟩
    simp only [List.mapM_cons, Sem.run_bind, hy, hys, Result.andThen_ok, Sem.run_pure]

/-- A function's contract out of its code. -/
theorem acalls_of {f : FuncId} {fn : Func} {c : Code} (hf : P.funcs[f]? = some fn) (hb : fn.body = some c) (hc : callable P f = true) {args : List AV} (hd : dstsOk (args.length + (fn.ntmps - args.length)) c = true) {H : AH} {R : AV → AH → Prop}
    (h : acode P W0 H.nxt c (retA P W0 H.nxt fn.results.toList R) (env0 args) H) : ACalls P W0 f args H R := by
  refine ⟨hc, fun φ W ys hI hv => ?_⟩
  have hlen := hv.length
  refine calls_of_wp hf hb (wp_mono (code_sound (n := args.length + (fn.ntmps - args.length)) hI.non c _ φ (env0 args) H _ W hd ⟨hI, fun t => ?_, Ext.refl _, rfl, ?_⟩ h) ?_)
  · simp only [env0]
    by_cases ht : t < args.length
    · obtain ⟨y, hy, hvy⟩ := hv.get t args[t] (List.getElem?_eq_getElem ht)
      rw [List.getD_eq_getElem?_getD, List.getElem?_eq_getElem ht]
      have : (ys.toArray ++ Array.replicate (fn.ntmps - ys.toArray.size) undef).getD t undef = y := by
        rw [Array.getD_eq_getD_getElem?, Array.getElem?_append_left (by simp; omega)]
        simp [hy]
      rw [this]
      exact hvy
    · rw [List.getD_eq_getElem?_getD, List.getElem?_eq_none (by omega)]
      have : (ys.toArray ++ Array.replicate (fn.ntmps - ys.toArray.size) undef).getD t undef = undef := by
        rw [Array.getD_eq_getD_getElem?, Array.getElem?_append_right (by simp; omega)]
        by_cases h2 : t - ys.length < fn.ntmps - ys.length
        · simp [h2]
        · simp [h2]
      rw [this]
      exact .v _
  · simp [hlen]
  · intro x a W' hcq
    obtain ⟨ax, e, H', φ', hx, hr, hq⟩ := hcq
    have fin : (match resAll P W0 fn.results.toList e H' with
        | some [v] => ∃ H1, FgtH H.nxt H' H1 ∧ FgtV H' H1 v ∧ R v H1
        | some l => ∃ H1, FgtH H.nxt H' H1 ∧ FgtV H' H1 (.tup l) ∧ R (.tup l) H1
        | none => False) → ∃ v, (results fn a.tmps).run P W' = .ok v W' ∧ ∃ (y : Value) (w : AV) (H1 : AH) (φ1 : Phi), Ending.returned v = .returned y ∧ VR φ1 w y ∧ Inv W0 φ1 H1 W' ∧ Ext φ φ1 ∧ R w H1 := by
      intro hm
      have hres : ∀ l, resAll P W0 fn.results.toList e H' = some l → ∃ ys : List Value, (results fn a.tmps).run P W' = .ok (if h : ys.toArray.size = 1 then ys.toArray[0] else .tuple ys.toArray) W' ∧ VRs φ' l ys := by
        intro l hl
        obtain ⟨ys, h1, h2⟩ := resAll_run hr.inv hr.er hl
        refine ⟨ys, ?_, h2⟩
        rw [results_eq, Array.mapM_eq_mapM_toList]
        simp only [Sem.run_bind, Sem.run_map, h1, Result.andThen_ok, Sem.run_pure]
      have fg : ∀ (w : AV) (y : Value), (∃ H1, FgtH H.nxt H' H1 ∧ FgtV H' H1 w ∧ R w H1) → VR φ' w y → ∃ (H1 : AH) (φ1 : Phi), VR φ1 w y ∧ Inv W0 φ1 H1 W' ∧ Ext φ φ1 ∧ R w H1 := by
        rintro w y ⟨H1, k2, k3, k4⟩ hv
        obtain ⟨φ1, m1, m2, m3⟩ := hr.inv.forget k2 hr.ext hI.non
        exact ⟨H1, φ1, m3 _ _ k3 hv, m1, m2, k4⟩
      split at hm
      · rename_i v hl
        obtain ⟨ys, h1, h2⟩ := hres _ hl
        cases h2 with
        | cons hv h2 =>
          cases h2
          obtain ⟨H1, φ1, m1, m2, m3, m4⟩ := fg _ _ hm hv
          exact ⟨_, h1, _, _, H1, φ1, rfl, m1, m2, m3, m4⟩
      · rename_i l hne hl
        obtain ⟨ys, h1, h2⟩ := hres _ hl
        have hl2 := h2.length
        have hn1 : ¬ ys.toArray.size = 1 := by
          intro h1
          simp only [List.size_toArray] at h1
          rw [← hl2] at h1
          match l, h1 with
          | [v], _ => exact hne v rfl
        rw [dif_neg hn1] at h1
        obtain ⟨H1, φ1, m1, m2, m3, m4⟩ := fg _ _ hm (.tup h2)
        exact ⟨_, h1, _, _, H1, φ1, rfl, m1, m2, m3, m4⟩
      · exact hm.elim
    cases ax with
    | normal => cases x <;> simp only [XM] at hx; exact ⟨hr.defers, fin hq⟩
    | ret => cases x <;> simp only [XM] at hx; exact ⟨hr.defers, fin hq⟩
    | exit id => exact hq.elim
end Go.Proofs.Ythcjolappblieaa.Aw
