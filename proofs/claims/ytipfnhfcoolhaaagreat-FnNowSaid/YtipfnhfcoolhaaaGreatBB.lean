/- The calculus 'Aw' at work: stepping equations, rules, loops, data in memory, what the law is given. -/
import Derived.Test.YtipfnhfcoolhaaaGreatBA
import Derived.KernelRfl
import Derived.Laws.Strings
import Derived.DataElems
import GoSem.ClaimChange
import Derived.IntWalk
import Derived.Laws.StructEq
import Derived.ChangeKeysEq
namespace Go.Proofs.YtipfnhfcoolhaaaGreat.Aw
section
/-! The calculus 'Aw' at work, part 1: the equations by which a function's code is stepped through. -/
open Go Go.RowKit
set_option linter.unusedVariables false
set_option linter.unusedSimpArgs false
set_option linter.unusedSectionVars false
variable {P : Program} {W0 : World}

/-! ### Choices -/
class K2 where (a : Prop) (b : Prop)
class K3 where (a : Prop) (b : Prop) (c : Prop)
class Kn where k : Nat → Prop
theorem K2.a_mk (A B : Prop) : (K2.mk A B).a = A := rfl
theorem K2.b_mk (A B : Prop) : (K2.mk A B).b = B := rfl
theorem K3.a_mk (A B C : Prop) : (K3.mk A B C).a = A := rfl
theorem K3.b_mk (A B C : Prop) : (K3.mk A B C).b = B := rfl
theorem K3.c_mk (A B C : Prop) : (K3.mk A B C).c = C := rfl
theorem Kn.k_mk (K : Nat → Prop) : (Kn.mk K).k = K := rfl
def acond (v : AV) [K : K2] : Prop := match v with | .v (.bool t) => if t = true then K.a else K.b | _ => False
section
variable {K : K2}
theorem acond_true : acond (.v (.bool true)) = K.a := by simp [acond]
theorem acond_false : acond (.v (.bool false)) = K.b := by simp [acond]
omit K in
theorem acond_split {t : Bool} {K : K2} (ha : t = true → K.a) (hb : t = false → K.b) : acond (K := K) (.v (.bool t)) := by
  cases t
  · simpa [acond] using hb rfl
  · simpa [acond] using ha rfl
end
def agrd (v : AV) (want : Bool) [K : K3] : Prop := match v with | .v (.bool b) => if b = want then K.a else K.b | .v (.tuple _) => K.c | _ => False
section
variable {K : K3}
theorem agrd_tt : agrd (.v (.bool true)) true = K.a := by simp [agrd]
theorem agrd_ff : agrd (.v (.bool false)) false = K.a := by simp [agrd]
theorem agrd_tf : agrd (.v (.bool true)) false = K.b := by simp [agrd]
theorem agrd_ft : agrd (.v (.bool false)) true = K.b := by simp [agrd]
theorem agrd_undef (w : Bool) : agrd (.v undef) w = K.c := rfl
omit K in
theorem agrd_split {t w : Bool} {K : K3} (ha : t = w → K.a) (hb : t = (!w) → K.b) : agrd (K := K) (.v (.bool t)) w := by
  cases t <;> cases w <;> simp_all [agrd]
end

/-! ### The frame -/
theorem putA_some (t : Nat) (v : AV) (e : Env) : putA (some t) v e = upd e t v := rfl
theorem putA_none (v : AV) (e : Env) : putA none v e = e := rfl
theorem upd_at (e : Env) (t : Nat) (v : AV) (u : Nat) : upd e t v u = if u = t then v else e u := rfl
theorem ev_tmp (e : Env) (t : Nat) : ev e (.tmp t) = e t := rfl
theorem ev_const (e : Env) (v : Value) : ev e (.const v) = .v v := rfl
theorem ev_func (e : Env) (f : FuncId) : ev e (.func f) = .fn f [] := rfl
/-- A frame out of a row: the slots that are still asked for. -/
def fr : List (Nat × AV) → Env
  | [] => fun _ => .dead
  | (t, v) :: l => upd (fr l) t v
theorem ne_add (n k : Nat) : (n = n + (k + 1)) = False := by simp
theorem add_ne (n k : Nat) : (n + (k + 1) = n) = False := by simp
theorem fr_cons (t : Nat) (v : AV) (l : List (Nat × AV)) (u : Nat) : fr ((t, v) :: l) u = if u = t then v else fr l u := rfl

theorem env0_nil (t : Nat) : env0 [] t = .v undef := by simp [env0]
theorem env0_zero (v : AV) (l : List AV) : env0 (v :: l) 0 = v := by simp [env0]
theorem env0_succ (v : AV) (l : List AV) (t : Nat) : env0 (v :: l) (t + 1) = env0 l t := by simp [env0]
/-! ### Code -/
theorem gtmp_zero (d : Option Nat) (op : Op) (ty : TypeId) (pos : String) (af : Array Edge) (g : Option (Nat × Bool)) (os : List Oper) : gtmp (List.toArray (⟨d, op, ty, pos, af, g⟩ :: os)) 0 = d := by simp [gtmp]
theorem gtmp_succ (o : Oper) (os : List Oper) (j : Nat) : gtmp (List.toArray (o :: os)) (j + 1) = gtmp (List.toArray os) j := by simp [gtmp]
def agt (t : Option Nat) [K : Kn] : Prop := match t with | some t => K.k t | none => False
theorem agt_some {K : Kn} (t : Nat) : agt (some t) = K.k t := rfl
theorem aops_nil (all : Array Oper) (Q : Env → AH → Prop) (e : Env) (H : AH) : aops P W0 all [] Q e H = Q e H := rfl
theorem aops_cons (all : Array Oper) (dst : Option Nat) (op : Op) (ty : TypeId) (pos : String) (after : Array Edge) (os : List Oper) (Q : Env → AH → Prop) (e : Env) (H : AH) :
    aops P W0 all (⟨dst, op, ty, pos, after, none⟩ :: os) Q e H = aop P W0 op e H fun v H' => aops P W0 all os Q (putA dst v e) H' := rfl
theorem aops_guard (all : Array Oper) (dst : Option Nat) (op : Op) (ty : TypeId) (pos : String) (after : Array Edge) (j : Nat) (want : Bool) (os : List Oper) (Q : Env → AH → Prop) (e : Env) (H : AH) :
    aops P W0 all (⟨dst, op, ty, pos, after, some (j, want)⟩ :: os) Q e H = agt (gtmp all j) (K := ⟨fun t =>
      agrd (e t) want (K := ⟨aop P W0 op (upd e t (.v (.bool want))) H fun v H' => aops P W0 all os Q (putA dst v (upd e t (.v (.bool want)))) H',
        aops P W0 all os Q (putA dst (.v undef) (upd e t (.v (.bool !want)))) H, aops P W0 all os Q (putA dst (.v undef) e) H⟩)⟩) := rfl
variable {N0 : Nat} {Q : AX → Env → AH → Prop} {e : Env} {H : AH}
theorem acode_skip : acode P W0 N0 .skip Q e H = Q .normal e H := rfl
theorem acode_region (id : Nat) (ops : Array Oper) : acode P W0 N0 (.region id ops false) Q e H = aops P W0 ops ops.toList (Q .normal) e H := by simp [acode]
theorem acode_draw (id : Nat) (ops : Array Oper) : acode P W0 N0 (.region id ops true) Q e H = adraw P W0 ops (Q .normal) e H := by simp [acode]
theorem acode_seq (a b : Code) : acode P W0 N0 (.seq a b) Q e H = acode P W0 N0 a (loopQ (acode P W0 N0 b Q) Q) e H := rfl
theorem acode_cond (c : Operand) (a b : Code) : acode P W0 N0 (.cond c a b) Q e H = acond (ev e c) (K := ⟨acode P W0 N0 a Q e H, acode P W0 N0 b Q e H⟩) := rfl
theorem acode_block (id : Nat) (c : Code) : acode P W0 N0 (.block id c) Q e H = acode P W0 N0 c (blockQ id Q) e H := rfl
theorem acode_exit (id : Nat) : acode P W0 N0 (.exit id) Q e H = Q (.exit id) e H := rfl
theorem acode_ret : acode P W0 N0 .ret Q e H = Q .ret e H := rfl
theorem loopQ_normal (I : Env → AH → Prop) : loopQ I Q .normal e H = I e H := rfl
theorem loopQ_exit (I : Env → AH → Prop) (n : Nat) : loopQ I Q (.exit n) e H = Q (.exit n) e H := rfl
theorem loopQ_ret (I : Env → AH → Prop) : loopQ I Q .ret e H = Q .ret e H := rfl
theorem blockQ_exit (id j : Nat) : blockQ id Q (.exit j) e H = if j = id then Q .normal e H else Q (.exit j) e H := rfl
theorem blockQ_normal (id : Nat) : blockQ id Q .normal e H = Q .normal e H := rfl
theorem blockQ_ret (id : Nat) : blockQ id Q .ret e H = Q .ret e H := rfl

/-! ### What a function hands back -/
def retK (N0 : Nat) (H : AH) (R : AV → AH → Prop) : Option (List AV) → Prop
  | some [v] => ∃ H1, FgtH N0 H H1 ∧ FgtV H H1 v ∧ R v H1
  | some l => ∃ H1, FgtH N0 H H1 ∧ FgtV H H1 (.tup l) ∧ R (.tup l) H1
  | none => False
theorem retA_ret (rs : List ResultVar) (R : AV → AH → Prop) : retA P W0 N0 rs R .ret e H = retK N0 H R (resAll P W0 rs e H) := rfl
theorem retA_normal (rs : List ResultVar) (R : AV → AH → Prop) : retA P W0 N0 rs R .normal e H = retK N0 H R (resAll P W0 rs e H) := rfl
theorem resAll_nil : resAll P W0 [] e H = some [] := rfl
theorem resAll_tmp (t : Nat) (rs : List ResultVar) : resAll P W0 (.tmp t :: rs) e H = (resAll P W0 rs e H).map (e t :: ·) := by
  simp [resAll, resOne]
  cases List.mapM (resOne P W0 e H) rs <;> rfl
def resCell (W0 : World) (i : Option TyI) (a : AV) (H : AH) : Option AV := match i with
  | some i => if i.agg = true ∨ i.size = 1 then (rdCells W0 H i.size a).map (mkv i.agg) else none
  | none => none
theorem resCell_agg (n b : Nat) (z : List Value) (a : AV) : resCell W0 (some ⟨true, n, b, z⟩) a H = (rdCells W0 H n a).map .agg := by simp [resCell]; congr
theorem resCell_one (b : Nat) (z : List Value) (a : AV) : resCell W0 (some ⟨false, 1, b, z⟩) a H = (rdCells W0 H 1 a).map (·.headD .dead) := by simp only [resCell, or_true, if_true]; rfl
theorem resAll_cell (a : Nat) (t : TypeId) (rs : List ResultVar) : resAll P W0 (.cell a t :: rs) e H = (resCell W0 (tyi P t) (e a) H).bind fun v => (resAll P W0 rs e H).map (v :: ·) := by
  have : resOne P W0 e H (.cell a t) = resCell W0 (tyi P t) (e a) H := by
    simp only [resOne, resCell]
    cases tyi P t <;> rfl
  simp only [resAll, List.mapM_cons, this]
  cases resCell W0 (tyi P t) (e a) H with
  | none => rfl
  | some v => cases List.mapM (resOne P W0 e H) rs <;> rfl
theorem FgtH.refl (N0 : Nat) (H : AH) : FgtH N0 H H := .inl rfl
theorem FgtV.refl (H : AH) (v : AV) : FgtV H H v := .inl rfl
theorem retK_one {R : AV → AH → Prop} {v : AV} (h : R v H) : retK N0 H R (some [v]) := ⟨H, .inl rfl, .inl rfl, h⟩
theorem retK_nil {R : AV → AH → Prop} (h : R (.tup []) H) : retK N0 H R (some []) := ⟨H, .inl rfl, .inl rfl, h⟩
theorem retK_two {R : AV → AH → Prop} {v w : AV} {l : List AV} (h : R (.tup (v :: w :: l)) H) : retK N0 H R (some (v :: w :: l)) := ⟨H, .inl rfl, .inl rfl, h⟩
end
section
/-! The calculus 'Aw' at work, part 2: each operation's equations. -/
open Go Go.RowKit
set_option linter.unusedVariables false
set_option linter.unusedSimpArgs false
set_option linter.unusedSectionVars false
class Kt where k : AV → AH → Prop
class Kl where k : List AV → Prop
theorem Kt.k_mk (K : AV → AH → Prop) : (Kt.mk K).k = K := rfl
theorem Kl.k_mk (K : List AV → Prop) : (Kl.mk K).k = K := rfl
variable {P : Program} {W0 : World} {e : Env} {H : AH} {κ : AV → AH → Prop} {K : Kt}
omit K in
theorem blk_new_self (H : AH) (cs : List AV) (s : Nat) : (H.new cs s).blk H.nxt = some ⟨cs, s⟩ := by simp [AH.new]
omit K in
theorem blk_new (H : AH) (cs : List AV) (s b : Nat) : (H.new cs s).blk b = if b = H.nxt then some ⟨cs, s⟩ else H.blk b := rfl
omit K in
theorem blk_set (H : AH) (B : Blk) (b b' : Nat) : (H.set b B).blk b' = if b' = b then some B else H.blk b' := rfl
omit K in
theorem blk_kill (H : AH) (b b' : Nat) : (H.kill b).blk b' = if b' = b then none else H.blk b' := rfl
omit K in
theorem nxt_new (H : AH) (cs : List AV) (s : Nat) : (H.new cs s).nxt = H.nxt + 1 := rfl
omit K in
theorem nxt_set (H : AH) (B : Blk) (b : Nat) : (H.set b B).nxt = H.nxt := rfl
omit K in
theorem nxt_kill (H : AH) (b : Nat) : (H.kill b).nxt = H.nxt := rfl
omit K in
theorem mkv_true (cs : List AV) : mkv true cs = .agg cs := rfl
omit K in
theorem mkv_one (x : AV) : mkv false [x] = x := rfl
omit K in
theorem cellsA_agg (l : List AV) : cellsA (.agg l) = some l := rfl
omit K in
theorem cellsA_ptr (b o : Nat) : cellsA (.ptr b o) = some [.ptr b o] := rfl
omit K in
theorem cellsA_sl (b o n : Nat) : cellsA (.sl b o n) = some [.sl b o n] := rfl
omit K in
theorem cellsA_fn (f : FuncId) (c : List AV) : cellsA (.fn f c) = some [.fn f c] := rfl
omit K in
theorem cellsA_leaf {x : Value} (h : leafV x = true) : cellsA (.v x) = some [.v x] := by cases x <;> first | rfl | (simp [leafV] at h)
omit K in
theorem cellsA_int (k : IntKind) (n : Int) : cellsA (.v (.int k n)) = some [.v (.int k n)] := rfl
omit K in
theorem cellsA_bool (b : Bool) : cellsA (.v (.bool b)) = some [.v (.bool b)] := rfl
omit K in
theorem cellsA_string (s) : cellsA (.v (.string s)) = some [.v (.string s)] := rfl
omit K in
theorem cellsA_slice (a : Option Addr) (n c : Nat) : cellsA (.v (.slice a n c)) = some [.v (.slice a n c)] := rfl
omit K in
theorem cellsA_pointer (a : Option Addr) : cellsA (.v (.pointer a)) = some [.v (.pointer a)] := rfl
omit K in
theorem rdCells_ptr (n b o : Nat) : rdCells W0 H n (.ptr b o) = (H.blk b).bind fun B => if o + n ≤ B.cells.length then some ((B.cells.drop o).take n) else none := rfl
omit K in
theorem slLen_sl (b o n : Nat) : slLen (.sl b o n) = some n := rfl
theorem cellsA_slc (b o n c : Nat) : cellsA (.slc b o n c) = some [.slc b o n c] := rfl
theorem cellsA_sl0 : cellsA .sl0 = some [.sl0] := rfl
omit K in
theorem slLen_v (a : Option Addr) (n c : Nat) : slLen (.v (.slice a n c)) = some n := rfl

/-! ### Operations -/
omit K in
theorem aop_move (x : Operand) : aop P W0 (.move x) e H κ = κ (ev e x) H := rfl
omit K in
theorem aop_assign (x : Operand) : aop P W0 (.assign x) e H κ = κ (ev e x) H := rfl
def apick (c a b : AV) (H : AH) [K : Kt] : Prop := match c with | .v (.bool t) => K.k (if t = true then a else b) H | _ => False
omit K in
theorem aop_pick (c a b : Operand) : aop P W0 (.pick c a b) e H κ = apick (K := ⟨κ⟩) (ev e c) (ev e a) (ev e b) H := rfl
theorem apick_true (a b : AV) : apick (.v (.bool true)) a b H = K.k a H := rfl
theorem apick_false (a b : AV) : apick (.v (.bool false)) a b H = K.k b H := rfl
theorem apick_bool (t : Bool) (a b : AV) : apick (.v (.bool t)) a b H = K.k (if t = true then a else b) H := rfl
def aalloc (i : Option TyI) (H : AH) [K : Kt] : Prop := match i with | some i => K.k (.ptr H.nxt 0) (H.new (i.zero.map .v) i.zero.length) | none => False
omit K in
theorem aop_alloc (t : TypeId) : aop P W0 (.alloc t) e H κ = aalloc (K := ⟨κ⟩) (tyi P t) H := rfl
theorem aalloc_some (g : Bool) (n b : Nat) (z : List Value) : aalloc (some ⟨g, n, b, z⟩) H = K.k (.ptr H.nxt 0) (H.new (z.map .v) z.length) := rfl
def abox (cs : Option (List AV)) (H : AH) [K : Kt] : Prop := match cs with | some cs => K.k (.ptr H.nxt 0) (H.new cs cs.length) | none => False
omit K in
theorem aop_box (t : TypeId) (x : Operand) : aop P W0 (.box t x) e H κ = abox (K := ⟨κ⟩) (cellsA (ev e x)) H := rfl
theorem abox_some (cs : List AV) : abox (some cs) H = K.k (.ptr H.nxt 0) (H.new cs cs.length) := rfl
def aK (cs : Option (List AV)) [K : Kl] : Prop := match cs with | some cs => K.k cs | none => False
theorem aK_some {K : Kl} (cs : List AV) : aK (some cs) = K.k cs := rfl
def abuildA (i j : Option TyI) (parts : List (Nat × AV)) [K : Kl] : Prop := match i, j with
  | some i, some j => aK (fillS j.size (i.zero.map .v) parts)
  | _, _ => False
def abuild (P : Program) (t : TypeId) (i : Option TyI) (pl : Option (List (Nat × Nat))) (parts : List (Nat × AV)) [K : Kl] : Prop := match i, pl with
  | some i, some pl => aK (fillA pl (i.zero.map .v) parts)
  | some i, none => abuildA (some i) ((arrt P t).bind fun p => tyi P p.2) parts
  | none, _ => False
theorem abuildA_some {K : Kl} (g g' : Bool) (n b n' b' : Nat) (z z' : List Value) (parts : List (Nat × AV)) : abuildA (some ⟨g, n, b, z⟩) (some ⟨g', n', b', z'⟩) parts = aK (fillS n' (z.map .v) parts) := rfl
theorem abuild_none {K : Kl} (t : TypeId) (i : TyI) (parts : List (Nat × AV)) : abuild P t (some i) none parts = abuildA (some i) ((arrt P t).bind fun p => tyi P p.2) parts := rfl
omit K in
theorem aop_build (t : TypeId) (parts) : aop P W0 (.build t parts) e H κ = abuild (K := ⟨fun cs => κ (.agg cs) H⟩) P t (tyi P t) (places P t) (parts.toList.map fun p => (p.1, ev e p.2)) := by
  simp only [aop, abuild]
  cases tyi P t with
  | none => rfl
  | some i =>
    cases places P t with
    | some pl => rfl
    | none => simp only; cases (arrt P t).bind fun p => tyi P p.2 <;> rfl
theorem abuild_some {K : Kl} (t : TypeId) (g : Bool) (n b : Nat) (z : List Value) (pl : List (Nat × Nat)) (parts : List (Nat × AV)) : abuild P t (some ⟨g, n, b, z⟩) (some pl) parts = aK (fillA pl (z.map .v) parts) := rfl
def abuildS (i : Option TyI) (len : Nat) (parts : List (Nat × AV)) (H : AH) [K : Kt] : Prop := match i with
  | some i => len * i.size ≤ 16777216 ∧ i.zero.length = i.size ∧ aK (K := ⟨fun cs => K.k (.sl H.nxt 0 len) (H.new cs i.size)⟩) (fillS i.size (zerosA i.zero len) parts)
  | none => False
omit K in
theorem aop_buildSlice (t : TypeId) (len : Nat) (parts) : aop P W0 (.buildSlice t len parts) e H κ = abuildS (K := ⟨κ⟩) ((elt P t).bind (tyi P)) len (parts.toList.map fun p => (p.1, ev e p.2)) H := rfl
theorem abuildS_some (g : Bool) (n b : Nat) (z : List Value) (len : Nat) (parts : List (Nat × AV)) : abuildS (some ⟨g, n, b, z⟩) len parts H = (len * n ≤ 16777216 ∧ z.length = n ∧ aK (K := ⟨fun cs => K.k (.sl H.nxt 0 len) (H.new cs n)⟩) (fillS n (zerosA z len) parts)) := rfl
def aload (W0 : World) (i : Option TyI) (a : AV) (H : AH) [K : Kt] : Prop := match i with
  | some i => (i.agg = true ∨ i.size = 1) ∧ aK (K := ⟨fun cs => K.k (mkv i.agg cs) H⟩) (rdCells W0 H i.size a)
  | none => False
omit K in
theorem aop_load (t : TypeId) (a : Operand) : aop P W0 (.load t a) e H κ = aload (K := ⟨κ⟩) W0 (tyi P t) (ev e a) H := rfl
theorem aload_agg (n b : Nat) (z : List Value) (a : AV) : aload W0 (some ⟨true, n, b, z⟩) a H = aK (K := ⟨fun cs => K.k (.agg cs) H⟩) (rdCells W0 H n a) := by simp only [aload, mkv, true_or, true_and, if_true]; rfl
theorem aload_one (b : Nat) (z : List Value) (a : AV) : aload W0 (some ⟨false, 1, b, z⟩) a H = aK (K := ⟨fun cs => K.k (cs.headD .dead) H⟩) (rdCells W0 H 1 a) := by simp only [aload, mkv, or_true, true_and, Bool.false_eq_true, if_false]; rfl
def astore' (i : Option TyI) (a x : AV) (H : AH) [K : Kt] : Prop := match i, a with
  | some i, .ptr b o => astore H i.size b o x K.k
  | _, _ => False
omit K in
theorem aop_store (t : TypeId) (a x : Operand) : aop P W0 (.store t a x) e H κ = astore' (K := ⟨κ⟩) (tyi P t) (ev e a) (ev e x) H := rfl
def astoreK (B : Option Blk) (cs : Option (List AV)) (n b o : Nat) (H : AH) [K : Kt] : Prop := match B, cs with
  | some B, some cs => cs.length = n ∧ o + n ≤ B.cells.length ∧ cs.all leafA = true ∧ K.k .dead (H.set b ⟨wr B.cells o cs, B.esz⟩)
  | _, _ => False
theorem astore'_some (g : Bool) (n b : Nat) (z : List Value) (b' o : Nat) (x : AV) : astore' (some ⟨g, n, b, z⟩) (.ptr b' o) x H = astoreK (H.blk b') (cellsA x) n b' o H := rfl
theorem astoreK_some (B : Blk) (cs : List AV) (n b o : Nat) : astoreK (some B) (some cs) n b o H = (cs.length = n ∧ o + n ≤ B.cells.length ∧ cs.all leafA = true ∧ K.k .dead (H.set b ⟨wr B.cells o cs, B.esz⟩)) := rfl
def anil (x : AV) (H : AH) [K : Kt] : Prop := match x with
  | .ptr b o => K.k (.ptr b o) H
  | .v (.pointer (some a)) => K.k (.v (.pointer (some a))) H
  | .fn f c => K.k (.fn f c) H
  | _ => False
omit K in
theorem aop_nilCheck (x : Operand) : aop P W0 (.nilCheck x) e H κ = anil (K := ⟨κ⟩) (ev e x) H := rfl
theorem anil_ptr (b o : Nat) : anil (.ptr b o) H = K.k (.ptr b o) H := rfl
theorem anil_old (a : Addr) : anil (.v (.pointer (some a))) H = K.k (.v (.pointer (some a))) H := rfl
theorem anil_fn (f : FuncId) (c : List AV) : anil (.fn f c) H = K.k (.fn f c) H := rfl

/-! ### Operators -/
def abinop (P : Program) (op : BinOp) (t : TypeId) (x y : AV) (H : AH) [K : Kt] : Prop := match x, y with
    | .v (.bool a), .v (.bool b) => match op, P.underlying t with
      | .eql, some .bool => K.k (.v (.bool (a == b))) H
      | .neq, some .bool => K.k (.v (.bool (!(a == b)))) H
      | _, _ => False
    | .v a, .v b => match abin op a b with
      | some r => K.k (.v r) H
      | none => match op, a, b with
        | .eql, .slice a' _ _, .slice none _ _ => (elt P t).isSome = true ∧ K.k (.v (.bool a'.isNone)) H
        | .neq, .slice a' _ _, .slice none _ _ => (elt P t).isSome = true ∧ K.k (.v (.bool a'.isSome)) H
        | _, _, _ => False
    | .sl b o n, .v (.slice none _ _) => match op with
      | .eql => (elt P t).isSome = true ∧ K.k (.v (.bool false)) H
      | .neq => (elt P t).isSome = true ∧ K.k (.v (.bool true)) H
      | _ => False
    | .agg l, .agg l' => match op with
      | .eql => ∃ xs ys r, l = xs.map .v ∧ l' = ys.map .v ∧ EqAt P t xs ys r ∧ K.k (.v (.bool r)) H
      | .neq => ∃ xs ys r, l = xs.map .v ∧ l' = ys.map .v ∧ EqAt P t xs ys r ∧ K.k (.v (.bool !r)) H
      | _ => False
    | _, _ => False
omit K in
theorem aop_binOp (op : BinOp) (t : TypeId) (x y : Operand) (c : TypeId) : aop P W0 (.binOp op t x y c) e H κ = abinop (K := ⟨κ⟩) P op t (ev e x) (ev e y) H := rfl
variable (t : TypeId) (k : IntKind) (a b : Int)
theorem bop_add : abinop P .add t (.v (.int k a)) (.v (.int k b)) H = K.k (.v (.int k (k.wrap (a + b)))) H := by simp [abinop, abin]
theorem bop_sub : abinop P .sub t (.v (.int k a)) (.v (.int k b)) H = K.k (.v (.int k (k.wrap (a - b)))) H := by simp [abinop, abin]
theorem bop_mul : abinop P .mul t (.v (.int k a)) (.v (.int k b)) H = K.k (.v (.int k (k.wrap (a * b)))) H := by simp [abinop, abin]
theorem bop_quo (hb : b ≠ 0) : abinop P .quo t (.v (.int k a)) (.v (.int k b)) H = K.k (.v (.int k (k.wrap (a.tdiv b)))) H := by simp [abinop, abin, hb]
theorem bop_rem (hb : b ≠ 0) : abinop P .rem t (.v (.int k a)) (.v (.int k b)) H = K.k (.v (.int k (a.tmod b))) H := by simp [abinop, abin, hb]
theorem bop_and : abinop P .and t (.v (.int k a)) (.v (.int k b)) H = K.k (.v (.int k (bits .and k a b))) H := by simp [abinop, abin]
theorem bop_or : abinop P .or t (.v (.int k a)) (.v (.int k b)) H = K.k (.v (.int k (bits .or k a b))) H := by simp [abinop, abin]
theorem bop_xor : abinop P .xor t (.v (.int k a)) (.v (.int k b)) H = K.k (.v (.int k (bits .xor k a b))) H := by simp [abinop, abin]
theorem bop_shl (k' : IntKind) (hb : 0 ≤ b) : abinop P .shl t (.v (.int k a)) (.v (.int k' b)) H = K.k (.v (.int k (k.wrap (a * 2 ^ (min b.toNat k.bits))))) H := by simp [abinop, abin, hb]
theorem bop_shr (k' : IntKind) (hb : 0 ≤ b) : abinop P .shr t (.v (.int k a)) (.v (.int k' b)) H = K.k (.v (.int k (a.fdiv (2 ^ (min b.toNat k.bits))))) H := by simp [abinop, abin, hb]
theorem bop_eql : abinop P .eql t (.v (.int k a)) (.v (.int k b)) H = K.k (.v (.bool (decide (a = b)))) H := by
  simp [abinop, abin]; rw [show (a == b) = decide (a = b) from rfl]
theorem bop_neq : abinop P .neq t (.v (.int k a)) (.v (.int k b)) H = K.k (.v (.bool (!decide (a = b)))) H := by
  simp [abinop, abin]; rw [show (a != b) = !decide (a = b) from rfl]
theorem bop_lss : abinop P .lss t (.v (.int k a)) (.v (.int k b)) H = K.k (.v (.bool (decide (a < b)))) H := by simp [abinop, abin]
theorem bop_leq : abinop P .leq t (.v (.int k a)) (.v (.int k b)) H = K.k (.v (.bool (decide (a ≤ b)))) H := by simp [abinop, abin]
theorem bop_gtr : abinop P .gtr t (.v (.int k a)) (.v (.int k b)) H = K.k (.v (.bool (decide (b < a)))) H := by simp [abinop, abin]
theorem bop_geq : abinop P .geq t (.v (.int k a)) (.v (.int k b)) H = K.k (.v (.bool (decide (b ≤ a)))) H := by simp [abinop, abin]
theorem bop_beq (hb : P.underlying t = some .bool) (p q : Bool) : abinop P .eql t (.v (.bool p)) (.v (.bool q)) H = K.k (.v (.bool (p == q))) H := by simp [abinop, hb]
theorem bop_bne (hb : P.underlying t = some .bool) (p q : Bool) : abinop P .neq t (.v (.bool p)) (.v (.bool q)) H = K.k (.v (.bool (!(p == q)))) H := by simp [abinop, hb]
theorem bop_sadd (s u : ByteArray) : abinop P .add t (.v (.string s)) (.v (.string u)) H = aK (K := ⟨fun _ => K.k (.v (.string (s ++ u))) H⟩) (if s.size + u.size ≤ 9223372036854775807 then some [] else none) := by
  by_cases h : s.size + u.size ≤ 9223372036854775807 <;> simp [abinop, abin, aK, h]
theorem bop_seql (s u : ByteArray) : abinop P .eql t (.v (.string s)) (.v (.string u)) H = K.k (.v (.bool (s.toList == u.toList))) H := by simp [abinop, abin]
theorem bop_sneq (s u : ByteArray) : abinop P .neq t (.v (.string s)) (.v (.string u)) H = K.k (.v (.bool (!(s.toList == u.toList)))) H := by simp [abinop, abin]
theorem bop_slss (s u : ByteArray) : abinop P .lss t (.v (.string s)) (.v (.string u)) H = K.k (.v (.bool (Op.bytesLess s.toList u.toList))) H := by simp [abinop, abin]
theorem bop_nil (a' : Option Addr) (n c n' c' : Nat) (he : (elt P t).isSome = true) : abinop P .eql t (.v (.slice a' n c)) (.v (.slice none n' c')) H = K.k (.v (.bool a'.isNone)) H := by simp [abinop, abin, he]
theorem bop_nonnil (a' : Option Addr) (n c n' c' : Nat) (he : (elt P t).isSome = true) : abinop P .neq t (.v (.slice a' n c)) (.v (.slice none n' c')) H = K.k (.v (.bool a'.isSome)) H := by simp [abinop, abin, he]
theorem bop_slnil (b' o n n' c' : Nat) (he : (elt P t).isSome = true) : abinop P .eql t (.sl b' o n) (.v (.slice none n' c')) H = K.k (.v (.bool false)) H := by simp [abinop, he]
theorem bop_slnonnil (b' o n n' c' : Nat) (he : (elt P t).isSome = true) : abinop P .neq t (.sl b' o n) (.v (.slice none n' c')) H = K.k (.v (.bool true)) H := by simp [abinop, he]

def aunop (op : UnOp) (x : AV) (H : AH) [K : Kt] : Prop := match x with
    | .v a => match aun op a with | some r => K.k (.v r) H | none => False
    | _ => False
omit K in
theorem aop_unOp (op : UnOp) (t : TypeId) (x : Operand) : aop P W0 (.unOp op t x) e H κ = aunop (K := ⟨κ⟩) op (ev e x) H := rfl
theorem uop_not (b : Bool) : aunop .not (.v (.bool b)) H = K.k (.v (.bool !b)) H := rfl
theorem uop_neg : aunop .neg (.v (.int k a)) H = K.k (.v (.int k (k.wrap (0 - a)))) H := rfl
def aconv (P : Program) (W0 : World) (src dst : TypeId) (x : AV) (H : AH) [K : Kt] : Prop := match x with
    | .v (.int k n) => match intKd P dst, (P.underlying src).isSome with | some k', true => K.k (.v (.int k' (k'.wrap n))) H | _, _ => False
    | .v (.string s) => if isStr P src && isStr P dst then K.k (.v (.string s)) H else False
    | .sl b o n => match elt P src, isStr P dst with
      | some e', true => intKd P e' = some .u8 ∧ match (slCells W0 H 1 n (.sl b o n)).bind intsOf with | some l => K.k (.v (.string (strOfNums l))) H | none => False
      | _, _ => False
    | .v (.slice none _ _) => match elt P src, isStr P dst with
      | some e', true => intKd P e' = some .u8 ∧ K.k (.v (.string .empty)) H
      | _, _ => False
    | _ => False
omit K in
theorem aop_convert (src dst : TypeId) (x : Operand) : aop P W0 (.convert src dst x) e H κ = aconv (K := ⟨κ⟩) P W0 src dst (ev e x) H := rfl
theorem conv_int {src dst : TypeId} {k' : IntKind} (hd : intKd P dst = some k') (hs : (P.underlying src).isSome = true) : aconv P W0 src dst (.v (.int k a)) H = K.k (.v (.int k' (k'.wrap a))) H := by simp [aconv, hd, hs]
theorem conv_str {src dst : TypeId} (hs : isStr P src = true) (hd : isStr P dst = true) (s : ByteArray) : aconv P W0 src dst (.v (.string s)) H = K.k (.v (.string s)) H := by simp [aconv, hs, hd]

/-! ### Places -/
def afa2 (i : Option TyI) (off : Nat) (x : AV) (H : AH) [K : Kt] : Prop := match i, x with
  | some i, .ptr b o => i.size ≠ 0 ∧ K.k (.ptr b (o + off)) H
  | some i, .v (.pointer (some a)) => i.size ≠ 0 ∧ K.k (.v (.pointer (some (a.add off)))) H
  | _, _ => False
def afa (P : Program) (f : Option (Nat × TypeId)) (x : AV) (H : AH) [K : Kt] : Prop := match f with
  | some (off, ft) => afa2 (tyi P ft) off x H
  | none => False
omit K in
theorem aop_fieldAddr (t : TypeId) (x : Operand) (f : Nat) : aop P W0 (.fieldAddr t x f) e H κ = afa (K := ⟨κ⟩) P (fldt P t f) (ev e x) H := rfl
theorem afa_some (off : Nat) (ft : TypeId) (x : AV) : afa P (some (off, ft)) x H = afa2 (tyi P ft) off x H := rfl
theorem afa2_ptr (g : Bool) (n b : Nat) (z : List Value) (off b' o : Nat) : afa2 (some ⟨g, n + 1, b, z⟩) off (.ptr b' o) H = K.k (.ptr b' (o + off)) H := by simp [afa2]
theorem afa2_old (g : Bool) (n b : Nat) (z : List Value) (off : Nat) (a : Addr) : afa2 (some ⟨g, n + 1, b, z⟩) off (.v (.pointer (some a))) H = K.k (.v (.pointer (some (a.add off)))) H := by simp [afa2]
def afld2 (i : Option TyI) (off : Nat) (x : AV) (H : AH) [K : Kt] : Prop := match i, x with
  | some i, .agg l => off + i.size ≤ l.length ∧ (i.agg = true ∨ i.size = 1) ∧ K.k (mkv i.agg ((l.drop off).take i.size)) H
  | _, _ => False
def afld (P : Program) (f : Option (Nat × TypeId)) (x : AV) (H : AH) [K : Kt] : Prop := match f with
  | some (off, ft) => afld2 (tyi P ft) off x H
  | none => False
omit K in
theorem aop_field (t : TypeId) (x : Operand) (f : Nat) : aop P W0 (.field t x f) e H κ = afld (K := ⟨κ⟩) P (fldt P t f) (ev e x) H := rfl
theorem afld_some (off : Nat) (ft : TypeId) (x : AV) : afld P (some (off, ft)) x H = afld2 (tyi P ft) off x H := rfl
theorem afld2_agg (n b : Nat) (z : List Value) (off : Nat) (l : List AV) : afld2 (some ⟨true, n, b, z⟩) off (.agg l) H = (off + n ≤ l.length ∧ K.k (.agg ((l.drop off).take n)) H) := by simp [afld2, mkv]
theorem afld2_one (b : Nat) (z : List Value) (off : Nat) (l : List AV) : afld2 (some ⟨false, 1, b, z⟩) off (.agg l) H = (off + 1 ≤ l.length ∧ K.k (((l.drop off).take 1).headD .dead) H) := by simp [afld2, mkv]
def aixs (i : Option TyI) (x j : AV) (H : AH) [K : Kt] : Prop := match i, x, j with
    | some i, .sl b o n, .v (.int _ j) => 0 ≤ j ∧ j < n ∧ (match H.blk b with | some B => B.esz = i.size | none => False) ∧ K.k (.ptr b (o + j.toNat * i.size)) H
    | some i, .slc b o n _, .v (.int _ j) => 0 ≤ j ∧ j < n ∧ (match H.blk b with | some B => B.esz = i.size | none => False) ∧ K.k (.ptr b (o + j.toNat * i.size)) H
    | some i, .v (.slice (some a) n _), .v (.int _ j) => 0 ≤ j ∧ j < n ∧ K.k (.v (.pointer (some (a.add (j.toNat * i.size))))) H
    | _, _, _ => False
def aixr (i : Option TyI) (n : Nat) (x j : AV) (H : AH) [K : Kt] : Prop := match i, x, j with
    | some i, .ptr b o, .v (.int _ j) => 0 ≤ j ∧ j < n ∧ K.k (.ptr b (o + j.toNat * i.size)) H
    | some i, .v (.pointer (some a)), .v (.int _ j) => 0 ≤ j ∧ j < n ∧ K.k (.v (.pointer (some (a.add (j.toNat * i.size))))) H
    | _, _, _ => False
def aixa (P : Program) (a : Option (Nat × TypeId)) (t : TypeId) (x j : AV) (H : AH) [K : Kt] : Prop := match a with
    | some (n, el) => aixr (tyi P el) n x j H
    | none => aixs ((elt P t).bind (tyi P)) x j H
omit K in
theorem aop_indexAddr (t : TypeId) (x ix : Operand) : aop P W0 (.indexAddr t x ix) e H κ = aixa (K := ⟨κ⟩) P (arrt P t) t (ev e x) (ev e ix) H := rfl
theorem aixa_some (n : Nat) (el t : TypeId) (x j : AV) : aixa P (some (n, el)) t x j H = aixr (tyi P el) n x j H := rfl
theorem aixa_none (t : TypeId) (x j : AV) : aixa P none t x j H = aixs ((elt P t).bind (tyi P)) x j H := rfl
theorem aixr_ptr (g : Bool) (s b : Nat) (z : List Value) (n b' o : Nat) (k : IntKind) (j : Int) : aixr (some ⟨g, s, b, z⟩) n (.ptr b' o) (.v (.int k j)) H = (0 ≤ j ∧ j < n ∧ K.k (.ptr b' (o + j.toNat * s)) H) := rfl
/-- An element's place. -/
def ixA (s : Nat) : AV → Nat → AV
  | .sl b o n, j => .ptr b (o + j * s)
  | .slc b o n _, j => .ptr b (o + j * s)
  | .v (.slice (some a) n _), j => .v (.pointer (some (a.add (j * s))))
  | _, _ => .dead
def aix (P : Program) (t : TypeId) (x j : AV) (H : AH) [K : Kt] : Prop := match x, j with
    | .v (.string s), .v (.int _ j) => isStr P t = true ∧ 0 ≤ j ∧ (∃ b : UInt8, s[j.toNat]? = some b ∧ K.k (.v (.int .u8 b.toNat)) H)
    | .agg l, .v (.int _ j) => match P.underlying t with
      | some (.array n el) => match tyi P el with
        | some i => 0 ≤ j ∧ j < n ∧ n * i.size ≤ l.length ∧ (i.agg = true ∨ i.size = 1) ∧ K.k (mkv i.agg ((l.drop (j.toNat * i.size)).take i.size)) H
        | none => False
      | _ => False
    | _, _ => False
omit K in
theorem aop_index (t : TypeId) (x ix : Operand) : aop P W0 (.index t x ix) e H κ = aix (K := ⟨κ⟩) P t (ev e x) (ev e ix) H := rfl
def aext (x : AV) (i : Nat) (H : AH) [K : Kt] : Prop := match x with
    | .tup l => match l[i]? with | some a => K.k a H | none => False
    | _ => False
omit K in
theorem aop_extract (x : Operand) (i : Nat) : aop P W0 (.extract x i) e H κ = aext (K := ⟨κ⟩) (ev e x) i H := rfl
theorem aext_zero (v : AV) (l : List AV) : aext (.tup (v :: l)) 0 H = K.k v H := rfl
theorem aext_succ (v : AV) (l : List AV) (i : Nat) : aext (.tup (v :: l)) (i + 1) H = aext (.tup l) i H := rfl

/-! ### Slices -/
def amks (i : Option TyI) (l c : AV) (H : AH) [K : Kt] : Prop := match i, l, c with
    | some i, .v (.int .i64 n), .v (.int .i64 m) => m = n ∧ 0 ≤ n ∧ n * i.bytes ≤ 281474976710656 ∧ n ≤ 281474976710656 ∧ i.zero.length = i.size ∧ K.k (.sl H.nxt 0 n.toNat) (H.new (zerosA i.zero n.toNat) i.size)
    | _, _, _ => False
omit K in
theorem aop_makeSlice (t : TypeId) (l c : Operand) : aop P W0 (.makeSlice t l c) e H κ = amks (K := ⟨κ⟩) ((elt P t).bind (tyi P)) (ev e l) (ev e c) H := rfl
theorem amks_some (g : Bool) (s b : Nat) (z : List Value) (n m : Int) : amks (some ⟨g, s, b, z⟩) (.v (.int .i64 n)) (.v (.int .i64 m)) H = (m = n ∧ 0 ≤ n ∧ n * b ≤ 281474976710656 ∧ n ≤ 281474976710656 ∧ z.length = s ∧ K.k (.sl H.nxt 0 n.toNat) (H.new (zerosA z n.toNat) s)) := rfl
omit K in
theorem aop_makeFunc (f : FuncId) (caps : Array Operand) : aop P W0 (.makeFunc (.func f) #[] caps) e H κ = κ (.fn f (caps.toList.map (ev e))) H := by simp [aop]
def aslc (W0 : World) (H : AH) (s : Nat) (x : AV) (lo hi : Option AV) [K : Kt] : Prop := aslice W0 H s x lo hi K.k
def asl (P : Program) (W0 : World) (t : TypeId) (x : AV) (lo hi : Option AV) (H : AH) [K : Kt] : Prop := match x with
    | .v (.string s) => isStr P t = true ∧ aslc W0 H 1 (.v (.string s)) lo hi
    | x => match (elt P t).bind (tyi P) with
      | some i => aslc W0 H i.size x lo hi
      | none => False
omit K in
theorem aop_slice (t : TypeId) (x : Operand) (lo hi : Option Operand) : aop P W0 (.slice t x lo hi none) e H κ = asl (K := ⟨κ⟩) P W0 t (ev e x) (lo.map (ev e)) (hi.map (ev e)) H := by
  simp only [aop, asl]
  generalize ev e x = y
  cases y with
  | v z => cases z <;> rfl
  | _ => rfl

def aslc3 (W0 : World) (H : AH) (s : Nat) (x : AV) (lo hi mx : Option AV) [K : Kt] : Prop := aslice3 W0 H s x lo hi mx K.k
def asl3 (P : Program) (W0 : World) (t : TypeId) (x : AV) (lo hi : Option AV) (m : AV) (H : AH) [K : Kt] : Prop := match (elt P t).bind (tyi P) with
      | some i => aslc3 W0 H i.size x lo hi (some m)
      | none => False
omit K in
theorem aop_slice3 (t : TypeId) (x : Operand) (lo hi : Option Operand) (m : Operand) : aop P W0 (.slice t x lo hi (some m)) e H κ = asl3 (K := ⟨κ⟩) P W0 t (ev e x) (lo.map (ev e)) (hi.map (ev e)) (ev e m) H := rfl

/-! ### Calls -/
def ACallK (P : Program) (W0 : World) (g : FuncId) (xs : List AV) (H : AH) [K : Kt] : Prop := ACallG P W0 g xs H K.k
omit K in
theorem ACallK.of {K : Kt} {g : FuncId} {xs : List AV} {R : AV → AH → Prop} (h : ACalls P W0 g xs H R) (k : ∀ v H', R v H' → K.k v H') : ACallK (K := K) P W0 g xs H := .inl (h.mono k)
omit K in
theorem ACallK.ofE {K : Kt} {g : FuncId} {xs : List AV} {R : AV → AH → Prop} (h : AExt P W0 g xs H R) (k : ∀ v H', R v H' → K.k v H') : ACallK (K := K) P W0 g xs H := ACallG.mono (.inr h) k
def abi (P : Program) (W0 : World) (b : Builtin) (ts : List TypeId) (xs : List AV) (H : AH) [K : Kt] : Prop := abuiltin P W0 b ts xs H K.k
omit K in
theorem aop_callb (b : Builtin) (args : Array Operand) (ts : Array TypeId) : aop P W0 (.call { callee := .builtin b, args := args, argTypes := ts }) e H κ = abi (K := ⟨κ⟩) P W0 b ts.toList (args.toList.map (ev e)) H := rfl
def acallv (P : Program) (W0 : World) (fv : AV) (xs : List AV) (H : AH) [K : Kt] : Prop := match fv with
  | .fn g caps => ACallK P W0 g (xs ++ caps) H
  | _ => False
omit K in
theorem aop_callv (f : Operand) (args : Array Operand) (ts : Array TypeId) : aop P W0 (.call { callee := .value f, args := args, argTypes := ts }) e H κ = acallv (K := ⟨κ⟩) P W0 (ev e f) (args.toList.map (ev e)) H := rfl
theorem acallv_fn (g : FuncId) (caps xs : List AV) : acallv P W0 (.fn g caps) xs H = ACallK P W0 g (xs ++ caps) H := rfl
theorem abi_len_str (t : TypeId) (s : ByteArray) : abi P W0 .len [t] [.v (.string s)] H = (isStr P t = true ∧ K.k (.v (.int .i64 s.size)) H) := rfl
theorem abi_len_sl (t : TypeId) (b o n : Nat) : abi P W0 .len [t] [.sl b o n] H = ((elt P t).isSome = true ∧ K.k (.v (.int .i64 n)) H) := rfl
theorem abi_len_old (t : TypeId) (a : Option Addr) (n c : Nat) : abi P W0 .len [t] [.v (.slice a n c)] H = ((elt P t).isSome = true ∧ K.k (.v (.int .i64 n)) H) := rfl
omit K in
theorem abi_len {K : Kt} {t : TypeId} {x : AV} {n : Nat} (hl : slLen x = some n) (ht : (elt P t).isSome = true) (h : K.k (.v (.int .i64 n)) H) : abi (K := K) P W0 .len [t] [x] H := by
  unfold abi
  unfold slLen at hl
  split at hl
  · injection hl with hl; subst hl; exact ⟨ht, h⟩
  · injection hl with hl; subst hl; exact ⟨ht, h⟩
  · injection hl with hl; subst hl; exact ⟨ht, h⟩
  · cases hl
theorem abi_len_slc (t : TypeId) (b o n c : Nat) : abi P W0 .len [t] [.slc b o n c] H = ((elt P t).isSome = true ∧ K.k (.v (.int .i64 n)) H) := rfl
theorem abi_cap_slc (t : TypeId) (b o n c : Nat) : abi P W0 .cap [t] [.slc b o n c] H = ((elt P t).isSome = true ∧ K.k (.v (.int .i64 c)) H) := rfl
def acopy (i : Option TyI) (d : Option (Nat × Nat × Nat)) (m : Option Nat) (src : AV) (W0 : World) (H : AH) [K : Kt] : Prop := match i, d, m with
    | some i, some (b, o, n), some m =>
      match H.blk b, slCells W0 H i.size (min m n) src with
      | some B, some new => B.esz = i.size ∧ o + n * i.size ≤ B.cells.length ∧ new.all leafA = true ∧ K.k (.v (.int .i64 (min m n : Nat))) (H.set b ⟨wr B.cells o new, B.esz⟩)
      | _, _ => False
    | _, _, _ => False
theorem abi_copy (t t' : TypeId) (dst src : AV) : abi P W0 .copy [t, t'] [dst, src] H = acopy ((elt P t).bind (tyi P)) (slBlk dst) (lenA src) src W0 H := rfl
theorem slBlk_sl (b o n : Nat) : slBlk (.sl b o n) = some (b, o, n) := rfl
theorem slBlk_slc (b o n c : Nat) : slBlk (.slc b o n c) = some (b, o, n) := rfl
theorem lenA_sl (b o n : Nat) : lenA (.sl b o n) = some n := rfl
theorem lenA_slc (b o n c : Nat) : lenA (.slc b o n c) = some n := rfl
theorem lenA_sl0 : lenA .sl0 = some 0 := rfl
theorem lenA_v (a : Option Addr) (n c : Nat) : lenA (.v (.slice a n c)) = some n := rfl
theorem lenA_of {x : AV} {n : Nat} (h : slLen x = some n) : lenA x = some n := by
  cases x <;> first | exact h | cases h
theorem abi_cap (t : TypeId) (b o n c : Nat) (ht : (elt P t).isSome = true) : abi P W0 .cap [t] [.slc b o n c] H = K.k (.v (.int .i64 c)) H := by rw [abi_cap_slc]; simp [ht]
def aapp (P : Program) (W0 : World) (H : AH) (i : Option TyI) (dst src : AV) [K : Kt] : Prop := match i, lenA src with
  | some i, some m =>
    match slCells W0 H i.size m src with
    | some new => 0 < i.size ∧ 0 < i.bytes ∧ i.zero.length = i.size ∧ new.all leafA = true ∧
      match dst with
      | .v (.slice _ 0 0) => m * i.bytes ≤ 140737488355328 ∧ if m = 0 then K.k dst H else K.k (.sl H.nxt 0 m) (H.new new i.size)
      | .sl0 => m * i.bytes ≤ 140737488355328 ∧ if m = 0 then K.k .sl0 H else K.k (.sl H.nxt 0 m) (H.new new i.size)
      | .slc b o n c =>
        match H.blk b with
        | some B => B.esz = i.size ∧ o + c * i.size ≤ B.cells.length ∧ n ≤ c ∧ (n + m) * i.bytes ≤ 140737488355328 ∧
          if n + m ≤ c then K.k (.slc b o (n + m) c) (H.set b ⟨wr B.cells (o + n * i.size) new, B.esz⟩)
          else K.k (.sl H.nxt 0 (n + m)) (H.new ((B.cells.drop o).take (n * i.size) ++ new) i.size)
        | none => False
      | .sl b o n =>
        match H.blk b with
        | some B => B.esz = i.size ∧ o + n * i.size ≤ B.cells.length ∧ (n + m) * i.bytes ≤ 140737488355328 ∧
          K.k (.sl H.nxt 0 (n + m)) ((H.kill b).new ((B.cells.drop o).take (n * i.size) ++ new) i.size)
        | none => False
      | _ => False
    | none => False
  | _, _ => False
theorem abi_append {t t' el el' : TypeId} (ht : elt P t = some el) (ht' : elt P t' = some el') (dst src : AV) : abi P W0 .append [t, t'] [dst, src] H = aapp P W0 H (tyi P el) dst src := by
  simp only [abi, abuiltin, ht, ht']
  rfl
theorem abi_min (ts : List TypeId) : abi P W0 .min ts [.v (.int k a), .v (.int k b)] H = K.k (.v (.int k (if b < a then b else a))) H := rfl
theorem abi_max (ts : List TypeId) : abi P W0 .max ts [.v (.int k a), .v (.int k b)] H = K.k (.v (.int k (if b > a then b else a))) H := rfl
attribute [go_sem ↓] aops_nil aops_cons aops_guard acode_skip acode_region acode_draw acode_seq acode_cond acode_block acode_exit acode_ret loopQ_normal loopQ_exit loopQ_ret blockQ_exit blockQ_normal blockQ_ret retA_ret retA_normal aop_move aop_assign aop_pick aop_alloc aop_box aop_build aop_buildSlice aop_load aop_store aop_nilCheck aop_binOp aop_unOp aop_convert aop_fieldAddr aop_field aop_indexAddr aop_index aop_extract aop_makeSlice aop_makeFunc aop_slice aop_slice3 aop_callb aop_callv
attribute [go_sem] ne_add add_ne resAll_cell resCell_agg resCell_one acond_true acond_false agrd_tt agrd_ff agrd_tf agrd_ft agrd_undef putA_some putA_none ev_tmp ev_const ev_func gtmp_zero gtmp_succ agt_some resAll_nil resAll_tmp nxt_new nxt_set nxt_kill mkv_true mkv_one cellsA_agg cellsA_ptr cellsA_sl cellsA_slc cellsA_sl0 cellsA_fn cellsA_int cellsA_bool cellsA_string cellsA_slice cellsA_pointer rdCells_ptr slLen_sl slLen_v lenA_sl lenA_slc lenA_sl0 lenA_v slBlk_sl slBlk_slc apick_true apick_false apick_bool aalloc_some abox_some aK_some abuild_some abuild_none abuildA_some aixa_some aixa_none aixr_ptr abuildS_some aload_agg aload_one astore'_some astoreK_some anil_ptr anil_old anil_fn bop_add bop_sub bop_mul bop_quo bop_rem bop_and bop_or bop_xor bop_eql bop_neq bop_lss bop_leq bop_gtr bop_geq bop_sadd bop_seql bop_sneq bop_slss bop_nil bop_nonnil bop_slnil bop_slnonnil uop_not uop_neg conv_int conv_str afa_some afa2_ptr afa2_old afld_some afld2_agg afld2_one aext_zero aext_succ amks_some acallv_fn abi_len_str abi_len_sl abi_len_slc abi_len_old abi_cap abi_append abi_min abi_max bop_beq bop_bne upd_at fr_cons blk_new blk_set blk_kill blk_new_self env0_nil env0_zero env0_succ
end
section
/-! The calculus 'Aw' at work, part 3: rules. -/
open Go Go.RowKit
set_option linter.unusedVariables false
set_option linter.unusedSimpArgs false
set_option linter.unusedSectionVars false
variable {P : Program} {W0 : World}

theorem leafA_int (k : IntKind) (n : Int) : leafA (.v (.int k n)) = true := rfl
theorem leafA_bool (b : Bool) : leafA (.v (.bool b)) = true := rfl
theorem leafA_string (b : ByteArray) : leafA (.v (.string b)) = true := rfl
theorem leafA_slice (a : Option Addr) (n c : Nat) : leafA (.v (.slice a n c)) = true := rfl
theorem leafA_pointer (a : Option Addr) : leafA (.v (.pointer a)) = true := rfl
theorem leafA_sl (b o n : Nat) : leafA (.sl b o n) = true := rfl
theorem leafA_slc (b o n c : Nat) : leafA (.slc b o n c) = true := rfl
theorem leafA_sl0 : leafA .sl0 = true := rfl
theorem leafA_ptr (b o : Nat) : leafA (.ptr b o) = true := rfl
theorem leafA_fn (f : FuncId) (c : List AV) : leafA (.fn f c) = true := rfl
theorem aK_rd {K : Kl} {o n L : Nat} {cs r : List AV} (h : o + n ≤ L) (hr : (cs.drop o).take n = r) (k : K.k r) : aK (K := K) (if o + n ≤ L then some ((cs.drop o).take n) else none) := by
  rw [if_pos h, hr]; exact k
theorem aK_to {K : Kl} {x : Option (List AV)} (r : List AV) (h : x = some r) (k : K.k r) : aK (K := K) x := by rw [h]; exact k
theorem take_one {cs : List AV} {o : Nat} {v : AV} (h : cs[o]? = some v) : (cs.drop o).take 1 = [v] := by
  obtain ⟨h1, h2⟩ := List.getElem?_eq_some_iff.1 h
  rw [List.drop_eq_getElem_cons h1, h2]; simp
theorem bytes_eq_iff (a b : ByteArray) : (a.toList == b.toList) = decide (a = b) := by
  have h : a.toList = b.toList ↔ a = b := by
    constructor
    · intro h
      rw [ByteArray.toList_eq, ByteArray.toList_eq] at h
      exact ByteArray.ext (Array.toList_inj.mp h)
    · rintro rfl; rfl
  by_cases hab : a = b
  · subst hab; simp
  · have : a.toList ≠ b.toList := fun h' => hab (h.1 h')
    simp [hab, this]
theorem set_new (H : AH) (cs : List AV) (s : Nat) (B : Blk) : (H.new cs s).set H.nxt B = H.new B.cells B.esz := by
  cases B
  simp only [AH.new, AH.set, AH.mk.injEq, and_true]
  funext b
  by_cases h : b = H.nxt <;> simp [h]
theorem wr_all (l cs : List AV) (h : l.length = cs.length) : wr l 0 cs = cs := by
  simp [wr, ← h]
/-! ### The law, called -/
def H0 : AH := ⟨fun _ => none, 0⟩
def φ0 : Phi := fun _ => none
theorem Inv.start (W : World) : Inv W φ0 H0 W := ⟨Below.refl _ _, fun _ _ h => (by cases h), fun _ _ _ _ h => (by cases h), fun _ _ => rfl, fun _ _ => rfl⟩
theorem law_calls {W : World} {f : FuncId} {args : List AV} {ys : List Value} (h : ACalls P W f args H0 (fun v _ => v = .v (.bool true))) (hv : VRs φ0 args ys) :
    Calls P f ys.toArray W fun e W' => e = .returned (.bool true) ∧ Below W.heap.size W W' := by
  refine (h.2 φ0 W ys (Inv.start W) hv).mono ?_
  rintro e W' ⟨y, v, H', φ', rfl, hv, hI, _, rfl⟩
  exact ⟨by rw [hv.v_eq], hI.below⟩
end
section
/-! The calculus 'Aw' at work, part 3b: regions whose order is drawn, stepped through in one order. -/
open Go Go.RowKit
set_option linter.unusedVariables false
set_option linter.unusedSimpArgs false
set_option linter.unusedSectionVars false
variable {P : Program} {W0 : World} {all : Array Oper} {Q : Env → AH → Prop}

theorem upd_same {e : Env} {t : Nat} {v : AV} (h : e t = v) : upd e t v = e := by
  funext u; simp only [upd]; split
  · subst_vars; rfl
  · rfl
/-- The step of 'aops', told with 'raw1'. -/
theorem aops_raw {o : Oper} {os : List Oper} {e : Env} {H : AH} : aops P W0 all (o :: os) Q e H = raw1 P W0 all o e H fun v H' => aops P W0 all os Q (putA o.dst v e) H' := by
  unfold raw1 want1
  simp only [aops]
  cases hg : o.guard with
  | none => rfl
  | some g =>
    obtain ⟨j, w⟩ := g
    simp only
    cases ht : gtmp all j with
    | none => rfl
    | some t =>
      simp only
      cases hv : e t with
      | v x =>
        cases x with
        | bool b =>
          simp only
          by_cases hb : b = w
          · subst hb
            simp only [if_true, upd_same hv, beq_self_eq_true]
          · have h1 : (b == w) = false := by simpa using hb
            have h2 : (!w) = b := by cases b <;> cases w <;> simp_all
            simp only [hb, if_false, h1, h2, upd_same hv]
        | _ => rfl
      | _ => rfl
def okQ (ops : Array Oper) : Bool := okDraw ops (List.range ops.size) && ops.all quietO
theorem wl_quiet {bef : Nat → Nat → Bool} (hq : ∀ o ∈ all.toList, quietO o = true) : ∀ (os : List Oper) (i : Nat) (hist : List Nat) (e : Env) (H : AH), (∀ k, os[k]? = all[i + k]?) → aops P W0 all os Q e H → wl P W0 all bef Q hist ((List.range os.length).map (i + ·)) e H
  | [], i, hist, e, H, hi, h => h
  | o :: os, i, hist, e, H, hi, h => by
    have hl : (List.range (o :: os).length).map (i + ·) = i :: (List.range os.length).map (i + 1 + ·) := by
      rw [List.length_cons, List.range_succ_eq_map, List.map_cons, List.map_map]
      congr 1
      apply List.map_congr_left
      intro k _
      simp; omega
    have ho : all[i]? = some o := by have := hi 0; simpa using this.symm
    rw [hl]
    simp only [wl, ho]
    rw [if_pos (hq o (Array.mem_toList_iff.2 (Array.mem_of_getElem? ho)))]
    rw [aops_raw] at h
    exact raw1_mono (fun v H' hk => wl_quiet hq os (i + 1) _ _ _ (fun k => by have := hi (k + 1); simpa [Nat.add_assoc, Nat.add_comm 1 k] using this) hk) h
/-- A drawn region without any operation that changes memory. -/
theorem adraw_quiet {ops : Array Oper} {e : Env} {H : AH} (hf : P.follows .mixedOrders = true) (h : okQ ops = true) (k : aops P W0 ops ops.toList Q e H) : adraw P W0 ops Q e H := by
  simp only [okQ, Bool.and_eq_true] at h
  refine ⟨hf, .inl ⟨List.range ops.size, h.1, by simp, ?_⟩⟩
  have := wl_quiet (P := P) (W0 := W0) (all := ops) (Q := Q) (bef := befOf ops) (fun o ho => Array.all_eq_true_iff_forall_mem.1 h.2 o (Array.mem_toList_iff.1 ho)) ops.toList 0 [] e H (fun k => by simp) k
  simpa using this

class Ko where k : Oper → Prop
theorem Ko.k_mk (K : Oper → Prop) : (Ko.mk K).k = K := rfl
def aat (o : Option Oper) [K : Ko] : Prop := match o with | some o => K.k o | none => False
theorem aat_some {K : Ko} (o : Oper) : aat (some o) = K.k o := rfl
def opAt (all : Array Oper) (i : Nat) : Option Oper := all[i]?
theorem opAt_zero (o : Oper) (os : List Oper) : opAt (List.toArray (o :: os)) 0 = some o := by simp [opAt]
theorem opAt_succ (o : Oper) (os : List Oper) (i : Nat) : opAt (List.toArray (o :: os)) (i + 1) = opAt (List.toArray os) i := by simp [opAt]
/-- One operation, its value handed on. -/
def ag1 (P : Program) (W0 : World) (all : Array Oper) (o : Oper) (e : Env) (H : AH) (R : AV → AH → Prop) : Prop := raw1 P W0 all o e H R
theorem ag1_none (dst : Option Nat) (op : Op) (ty : TypeId) (pos : String) (after : Array Edge) (e : Env) (H : AH) (R : AV → AH → Prop) : ag1 P W0 all ⟨dst, op, ty, pos, after, none⟩ e H R = aop P W0 op e H R := rfl
theorem ag1_some (dst : Option Nat) (op : Op) (ty : TypeId) (pos : String) (after : Array Edge) (j : Nat) (w : Bool) (e : Env) (H : AH) (R : AV → AH → Prop) :
    ag1 P W0 all ⟨dst, op, ty, pos, after, some (j, w)⟩ e H R = agt (gtmp all j) (K := ⟨fun t => agrd (e t) w (K := ⟨aop P W0 op e H R, R (.v undef) H, R (.v undef) H⟩)⟩) := by
  simp only [ag1, raw1, want1]
  cases ht : gtmp all j with
  | none => rfl
  | some t =>
    simp only [agt]
    cases hv : e t with
    | v x =>
      cases x with
      | bool b => simp only [agrd]; cases b <;> cases w <;> simp
      | _ => rfl
    | _ => rfl
def dstEq (d : Option Nat) (e : Env) (v : AV) : Prop := match d with | some t => v = e t | none => True
theorem dstEq_some (t : Nat) (e : Env) (v : AV) : dstEq (some t) e v = (v = e t) := rfl
theorem dstEq_none (e : Env) (v : AV) : dstEq none e v = True := rfl
def rechecks (P : Program) (W0 : World) (all : Array Oper) : List Nat → Env → AH → Prop
  | [], _, _ => True
  | j :: cs, e, H => aat (opAt all j) (K := ⟨fun o => ag1 P W0 all o e H fun v H' => H' = H ∧ dstEq o.dst e v⟩) ∧ rechecks P W0 all cs e H
theorem rechecks_nil (e : Env) (H : AH) : rechecks P W0 all [] e H = True := rfl
theorem rechecks_cons (j : Nat) (cs : List Nat) (e : Env) (H : AH) : rechecks P W0 all (j :: cs) e H = (aat (opAt all j) (K := ⟨fun o => ag1 P W0 all o e H fun v H' => H' = H ∧ dstEq o.dst e v⟩) ∧ rechecks P W0 all cs e H) := rfl
/-- A drawn region in one order; with each operation, what is to be looked at again behind it. -/
def awi (P : Program) (W0 : World) (all : Array Oper) (Q : Env → AH → Prop) : List (Nat × List Nat) → Env → AH → Prop
  | [], e, H => Q e H
  | (i, cs) :: l, e, H => aat (opAt all i) (K := ⟨fun o => ag1 P W0 all o e H fun v H' => rechecks P W0 all cs (putA o.dst v e) H' ∧ awi P W0 all Q l (putA o.dst v e) H'⟩)
theorem awi_nil (e : Env) (H : AH) : awi P W0 all Q [] e H = Q e H := rfl
theorem awi_cons (i : Nat) (cs : List Nat) (l : List (Nat × List Nat)) (e : Env) (H : AH) :
    awi P W0 all Q ((i, cs) :: l) e H = aat (opAt all i) (K := ⟨fun o => ag1 P W0 all o e H fun v H' => rechecks P W0 all cs (putA o.dst v e) H' ∧ awi P W0 all Q l (putA o.dst v e) H'⟩) := rfl
def planOk (all : Array Oper) (bef : Nat → Nat → Bool) : List Nat → List (Nat × List Nat) → Bool
  | _, [] => true
  | hist, (i, cs) :: l => if quietO (getO all i) then planOk all bef (i :: hist) l else hist.all (fun j => bef j i || cs.contains j) && planOk all bef hist l
def okPlan (ops : Array Oper) (pl : List (Nat × List Nat)) : Bool := okDraw ops (pl.map (·.1)) && pl.length == ops.size && planOk ops (befOf ops) [] pl
theorem rechecks_mem : ∀ {cs : List Nat} {e : Env} {H : AH}, rechecks P W0 all cs e H → ∀ j ∈ cs, ∀ o, all[j]? = some o → recheck P W0 all o e H
  | [], e, H, _, j, hj, _, _ => by cases hj
  | k :: cs, e, H, h, j, hj, o, ho => by
    rcases List.mem_cons.1 hj with rfl | hj
    · have h1 := h.1
      simp only [opAt, ho, aat, ag1] at h1
      refine raw1_mono ?_ h1
      rintro v H' ⟨rfl, hd⟩
      refine ⟨rfl, fun t ht => ?_⟩
      rw [ht] at hd; exact hd
    · exact rechecks_mem h.2 j hj o ho
theorem awi_wl {bef : Nat → Nat → Bool} : ∀ (pl : List (Nat × List Nat)) (hist : List Nat) (e : Env) (H : AH), planOk all bef hist pl = true → awi P W0 all Q pl e H → wl P W0 all bef Q hist (pl.map (·.1)) e H
  | [], hist, e, H, _, h => h
  | (i, cs) :: pl, hist, e, H, hp, h => by
    simp only [awi, opAt] at h
    simp only [List.map_cons, wl]
    cases ho : all[i]? with
    | none => rw [ho] at h; exact h
    | some o =>
      rw [ho] at h
      simp only [aat, ag1] at h ⊢
      simp only [planOk, getO_eq ho] at hp
      split
      · rename_i hq
        rw [if_pos hq] at hp
        exact raw1_mono (fun v H' hk => awi_wl pl _ _ _ hp hk.2) h
      · rename_i hq
        rw [if_neg hq] at hp
        simp only [Bool.and_eq_true, List.all_eq_true, Bool.or_eq_true] at hp
        refine raw1_mono (fun v H' hk => ⟨fun j hj hb o ho => ?_, awi_wl pl _ _ _ hp.2 hk.2⟩) h
        have := (hp.1 j hj).resolve_left (by rw [hb]; decide)
        exact rechecks_mem hk.1 j (by simpa using this) o ho
theorem adraw_plan {ops : Array Oper} {e : Env} {H : AH} (pl : List (Nat × List Nat)) (hf : P.follows .mixedOrders = true) (h : okPlan ops pl = true) (k : awi P W0 ops Q pl e H) : adraw P W0 ops Q e H := by
  simp only [okPlan, Bool.and_eq_true] at h
  exact ⟨hf, .inl ⟨pl.map (·.1), h.1.1, by simpa using h.1.2, awi_wl pl [] e H h.2 k⟩⟩
/-! ### A tree of orders -/
inductive Tp where
  | node (q : List Nat) (brs : List (Nat × List Nat × Tp))
mutual
def Tp.tr : Tp → Tr
  | .node q brs => .node q (Tp.trL brs)
def Tp.trL : List (Nat × List Nat × Tp) → List (Nat × Tr)
  | [] => []
  | (i, _, t) :: bs => (i, t.tr) :: Tp.trL bs
end
mutual
def Tp.ok (bef : Nat → Nat → Bool) : List Nat → Tp → Bool
  | hist, .node q brs => Tp.okL bef (q.reverse ++ hist) brs
def Tp.okL (bef : Nat → Nat → Bool) : List Nat → List (Nat × List Nat × Tp) → Bool
  | _, [] => true
  | hist, (i, cs, t) :: bs => hist.all (fun j => bef j i || cs.contains j) && t.ok bef hist && Tp.okL bef hist bs
end
mutual
def awt (P : Program) (W0 : World) (all : Array Oper) (Q : Env → AH → Prop) : Tp → Env → AH → Prop
  | .node q brs, e, H => awi P W0 all (fun e' H' => (brs = [] → Q e' H') ∧ awts P W0 all Q brs e' H') (q.map fun i => (i, [])) e H
def awts (P : Program) (W0 : World) (all : Array Oper) (Q : Env → AH → Prop) : List (Nat × List Nat × Tp) → Env → AH → Prop
  | [], _, _ => True
  | (i, cs, t) :: bs, e, H => aat (opAt all i) (K := ⟨fun o => ag1 P W0 all o e H fun v H' => rechecks P W0 all cs (putA o.dst v e) H' ∧ awt P W0 all Q t (putA o.dst v e) H'⟩) ∧ awts P W0 all Q bs e H
end
theorem awt_cons (i : Nat) (q : List Nat) (brs : List (Nat × List Nat × Tp)) (e : Env) (H : AH) : awt P W0 all Q (.node (i :: q) brs) e H = aat (opAt all i) (K := ⟨fun o => ag1 P W0 all o e H fun v H' => awt P W0 all Q (.node q brs) (putA o.dst v e) H'⟩) := by
  simp only [awt, List.map_cons, awi_cons]
  have : (fun o : Oper => ag1 P W0 all o e H fun v H' => rechecks P W0 all [] (putA o.dst v e) H' ∧ awi P W0 all (fun e' H' => (brs = [] → Q e' H') ∧ awts P W0 all Q brs e' H') (q.map fun i => (i, [])) (putA o.dst v e) H') =
      fun o => ag1 P W0 all o e H fun v H' => awt P W0 all Q (.node q brs) (putA o.dst v e) H' := by
    funext o
    congr 1
    funext v H'
    simp [rechecks_nil, awt]
  rw [this]
theorem awt_nil (e : Env) (H : AH) : awt P W0 all Q (.node [] []) e H = Q e H := by simp [awt, awi, awts]
theorem awt_brs (b : Nat × List Nat × Tp) (bs : List (Nat × List Nat × Tp)) (e : Env) (H : AH) : awt P W0 all Q (.node [] (b :: bs)) e H = awts P W0 all Q (b :: bs) e H := by simp [awt, awi]
theorem awts_one (i : Nat) (cs : List Nat) (t : Tp) (e : Env) (H : AH) : awts P W0 all Q [(i, cs, t)] e H = aat (opAt all i) (K := ⟨fun o => ag1 P W0 all o e H fun v H' => rechecks P W0 all cs (putA o.dst v e) H' ∧ awt P W0 all Q t (putA o.dst v e) H'⟩) := by simp [awts]
theorem awts_cons (i : Nat) (cs : List Nat) (t : Tp) (b : Nat × List Nat × Tp) (bs : List (Nat × List Nat × Tp)) (e : Env) (H : AH) : awts P W0 all Q ((i, cs, t) :: b :: bs) e H =
    (aat (opAt all i) (K := ⟨fun o => ag1 P W0 all o e H fun v H' => rechecks P W0 all cs (putA o.dst v e) H' ∧ awt P W0 all Q t (putA o.dst v e) H'⟩) ∧ awts P W0 all Q (b :: bs) e H) := by simp [awts]
theorem awi_wlq {bef : Nat → Nat → Bool} {Q' : Env → AH → Prop} : ∀ (q hist : List Nat) (e : Env) (H : AH), (∀ j ∈ q, quietO (getO all j) = true) → (∀ e' H', Q e' H' → Q' e' H') → awi P W0 all Q (q.map fun i => (i, [])) e H → wl P W0 all bef Q' hist q e H
  | [], hist, e, H, _, hk, h => hk _ _ h
  | i :: q, hist, e, H, hq, hk, h => by
    simp only [List.map_cons, awi, opAt] at h
    simp only [wl]
    cases ho : all[i]? with
    | none => rw [ho] at h; exact h
    | some o =>
      rw [ho] at h
      simp only [aat, ag1] at h ⊢
      have hqi := hq i (List.mem_cons_self ..)
      rw [getO_eq ho] at hqi
      rw [if_pos hqi]
      exact raw1_mono (fun v H' h' => awi_wlq q _ _ _ (fun j hj => hq j (List.mem_cons_of_mem _ hj)) hk h'.2) h
theorem trL_nil {bs : List (Nat × List Nat × Tp)} : Tp.trL bs = [] ↔ bs = [] := by
  cases bs with
  | nil => simp [Tp.trL]
  | cons b bs => obtain ⟨i, cs, t⟩ := b; simp [Tp.trL]
mutual
theorem awt_wt {bef : Nat → Nat → Bool} : ∀ (t : Tp) (hist : List Nat) (e : Env) (H : AH), t.ok bef hist = true → t.tr.ok all bef = true → awt P W0 all Q t e H → wt P W0 all bef Q t.tr hist e H
  | .node q brs, hist, e, H, hp, ht, h => by
    simp only [Tp.ok] at hp
    simp only [Tp.tr, Tr.ok, Bool.and_eq_true] at ht
    simp only [awt] at h
    simp only [Tp.tr, wt]
    exact awi_wlq q hist e H (fun j hj => List.all_eq_true.1 ht.1 j hj) (fun e' H' hk => ⟨fun hb => hk.1 (trL_nil.1 hb), awts_wts brs _ e' H' hp ht.2 hk.2⟩) h
theorem awts_wts {bef : Nat → Nat → Bool} {hs : List Nat} : ∀ (bs : List (Nat × List Nat × Tp)) (hist : List Nat) (e : Env) (H : AH), Tp.okL bef hist bs = true → Tr.okL all bef hs (Tp.trL bs) = true → awts P W0 all Q bs e H → wts P W0 all bef Q (Tp.trL bs) hist e H
  | [], _, _, _, _, _, _ => trivial
  | (i, cs, t) :: bs, hist, e, H, hp, ht, h => by
    simp only [Tp.okL, Bool.and_eq_true, List.all_eq_true, Bool.or_eq_true] at hp
    simp only [Tp.trL, Tr.okL, Bool.and_eq_true] at ht
    simp only [awts, opAt] at h
    simp only [Tp.trL, wts]
    refine ⟨?_, awts_wts bs hist e H hp.2 ht.2 h.2⟩
    have h1 := h.1
    cases ho : all[i]? with
    | none => rw [ho] at h1; exact h1
    | some o =>
      rw [ho] at h1
      simp only [aat, ag1] at h1 ⊢
      refine raw1_mono (fun v H' hk => ⟨fun j hj hb o ho => ?_, awt_wt t hist _ _ hp.1.2 ht.1.1.2 hk.2⟩) h1
      have := (hp.1.1 j hj).resolve_left (by rw [hb]; decide)
      exact rechecks_mem hk.1 j (by simpa using this) o ho
end
def okTp (ops : Array Oper) (t : Tp) : Bool := okTree ops t.tr && t.ok (befOf ops) []
theorem adraw_tree {ops : Array Oper} {e : Env} {H : AH} (t : Tp) (hf : P.follows .mixedOrders = true) (h : okTp ops t = true) (k : awt P W0 ops Q t e H) : adraw P W0 ops Q e H := by
  simp only [okTp, Bool.and_eq_true] at h
  refine ⟨hf, .inr ⟨t.tr, h.1, awt_wt t [] e H h.2 ?_ k⟩⟩
  have := h.1
  simp only [okTree, Bool.and_eq_true] at this
  exact this.1
attribute [go_sem ↓] awt_cons awt_nil awt_brs awts_one awts_cons
attribute [go_sem ↓] awi_nil awi_cons ag1_none ag1_some
attribute [go_sem] aat_some opAt_zero opAt_succ dstEq_some dstEq_none rechecks_nil rechecks_cons
end
section
/-! The calculus 'Aw' at work, part 4: data laid in memory; loops; what a function may leave behind. -/
open Go Go.RowKit
set_option linter.unusedVariables false
set_option linter.unusedSimpArgs false
set_option linter.unusedSectionVars false
variable {P : Program} {W0 : World}

/-! ### Memory that is closed -/
def AH.closed (H : AH) : Prop := H.wf ∧ ∀ b B, H.blk b = some B → refsLts H.nxt B.cells
mutual
theorem VR.refs {φ : Phi} {n : Nat} (hn : ∀ b, n ≤ b → φ b = none) : {a : AV} → {y : Value} → VR φ a y → refsLt n a
  | _, _, .v x => trivial
  | _, _, .ptr (b := b) h => by
    simp only [refsLt]
    rcases Nat.lt_or_ge b n with h1 | h1
    · exact h1
    · rw [hn b h1] at h; cases h
  | _, _, .sl (b := b) h _ _ => by
    simp only [refsLt]
    rcases Nat.lt_or_ge b n with h1 | h1
    · exact h1
    · rw [hn b h1] at h; cases h
  | _, _, .slc (b := b) h _ _ => by
    simp only [refsLt]
    rcases Nat.lt_or_ge b n with h1 | h1
    · exact h1
    · rw [hn b h1] at h; cases h
  | _, _, .sl0 _ => trivial
  | _, _, .agg h => VRs.refs hn h
  | _, _, .tup h => VRs.refs hn h
  | _, _, .fn h => VRs.refs hn h
  | _, _, .dead y => trivial
theorem VRs.refs {φ : Phi} {n : Nat} (hn : ∀ b, n ≤ b → φ b = none) : {l : List AV} → {ys : List Value} → VRs φ l ys → refsLts n l
  | _, _, .nil => trivial
  | _, _, .cons h k => ⟨VR.refs hn h, VRs.refs hn k⟩
end
theorem refsLts_of {n : Nat} : {l : List AV} → (∀ (i : Nat) (v : AV), l[i]? = some v → refsLt n v) → refsLts n l
  | [], _ => trivial
  | a :: l, h => ⟨h 0 a rfl, refsLts_of fun i v hv => h (i + 1) v (by simpa using hv)⟩
theorem Inv.closed {W : World} {φ : Phi} {H : AH} (hI : Inv W0 φ H W) : H.closed := by
  refine ⟨hI.wf, fun b B hB => ?_⟩
  obtain ⟨p, _, _, _, _, C, e, _, _, h⟩ := hI.blks b B hB
  refine refsLts_of fun j v hj => ?_
  obtain ⟨y, _, hv⟩ := h j v hj
  exact hv.refs hI.non
theorem acalls_closed {f : FuncId} {args : List AV} {H : AH} {R : AV → AH → Prop} (hc : callable P f = true) (h : H.closed → ACalls P W0 f args H R) : ACalls P W0 f args H R :=
  ⟨hc, fun φ W ys hI hv => (h hI.closed).2 φ W ys hI hv⟩
/-- A function's contract out of its code; the memory that it is called in is closed. -/
theorem acalls {f : FuncId} {fn : Func} {c : Code} (hf : P.funcs[f]? = some fn) (hb : fn.body = some c) (hc : callable P f = true) {args : List AV} (hd : dstsOk (args.length + (fn.ntmps - args.length)) c = true) {H : AH} {R : AV → AH → Prop}
    (h : H.closed → acode P W0 H.nxt c (retA P W0 H.nxt fn.results.toList R) (env0 args) H) : ACalls P W0 f args H R :=
  acalls_closed hc fun h1 => acalls_of hf hb hc hd (h h1)

/-! ### What stays -/
theorem Sub.refl (H : AH) : Sub H H := ⟨Nat.le_refl _, fun _ _ h => h⟩
theorem Sub.trans {a b c : AH} (h : Sub a b) (k : Sub b c) : Sub a c := ⟨Nat.le_trans h.1 k.1, fun x B hB => k.2 x B (h.2 x B hB)⟩
theorem AH.wf.lt {H : AH} (hw : H.wf) {b : Nat} {B : Blk} (h : H.blk b = some B) : b < H.nxt := by
  rcases Nat.lt_or_ge b H.nxt with h1 | h1
  · exact h1
  · rw [hw b h1] at h; cases h
theorem Sub.new {H H' : AH} (hw : H.wf) (h : Sub H H') (cs : List AV) (s : Nat) : Sub H (H'.new cs s) := by
  refine ⟨Nat.le_succ_of_le h.1, fun b B hB => ?_⟩
  have := hw.lt hB
  have h1 := h.1
  rw [blk_new, if_neg (by omega)]
  exact h.2 b B hB
theorem Sub.set {H H' : AH} (hw : H.wf) (h : Sub H H') {b : Nat} (hb : H.nxt ≤ b) (B : Blk) : Sub H (H'.set b B) := by
  refine ⟨h.1, fun x B hB => ?_⟩
  have := hw.lt hB
  rw [blk_set, if_neg (by omega)]
  exact h.2 x B hB
theorem Sub.kill {H H' : AH} (hw : H.wf) (h : Sub H H') {b : Nat} (hb : H.nxt ≤ b) : Sub H (H'.kill b) := by
  refine ⟨h.1, fun x B hB => ?_⟩
  have := hw.lt hB
  rw [blk_kill, if_neg (by omega)]
  exact h.2 x B hB
/-- A function hands back a value that leads to nothing new, and leaves nothing. -/
theorem retK_same {H H' : AH} {R : AV → AH → Prop} {v : AV} (hc : H.closed) (hs : Sub H H') (hv : refsLt H.nxt v) (hR : R v H) : retK H.nxt H' R (some [v]) :=
  ⟨H, .inr ⟨Nat.le_refl _, hs.2, hc.1, .inr ⟨hs.1, hc.2⟩⟩, .inr hv, hR⟩
theorem fr_nil (u : Nat) : fr [] u = .dead := rfl
attribute [go_sem] fr_nil

/-! ### Loops -/
def frOk (e : Env) : List (Nat × AV) → Prop
  | [] => True
  | (t, v) :: l => e t = v ∧ frOk e l
theorem fr_of {e : Env} : {l : List (Nat × AV)} → frOk e l → ∀ t, fr l t = .dead ∨ fr l t = e t
  | [], _, t => .inl rfl
  | (u, v) :: l, h, t => by
    rw [fr_cons]
    split
    · rename_i ht; subst ht; exact .inr h.1.symm
    · exact fr_of h.2 t
variable {N0 : Nat}
theorem Head.mk {I : Nat → Env → AH → Prop} {n : Nat} {e : Env} {H : AH} (m : Nat) (l : List (Nat × AV)) (hm : m < n) (hl : frOk e l) (hI : I m (fr l) H) : Head N0 I n e H :=
  ⟨m, fr l, H, hm, ⟨.inl rfl, fun t => (fr_of hl t).imp id fun h => ⟨h, .inl rfl⟩⟩, hI⟩
theorem acode_inv {c : Code} {Q : AX → Env → AH → Prop} {e : Env} {H : AH} (I : Nat → Env → AH → Prop) (n : Nat) (h0 : Head N0 I n e H) (hs : ∀ n e H, I n e H → acode P W0 N0 c (loopQ (Head N0 I n) Q) e H) : acode P W0 N0 (.loop c) Q e H := ⟨I, n, h0, hs⟩

/-! ### Data -/
def inI64 (n : Int) : Prop := -9223372036854775808 ≤ n ∧ n ≤ 9223372036854775807
def big : Nat := 9223372036854775807
/-- A Lean type whose values lie in memory as rows of cells. -/
class Ob (α : Type) where
  n : Nat
  rep : World → AH → List AV → α → Prop
  len : ∀ {W0 H cs x}, rep W0 H cs x → cs.length = n
  sub : ∀ {W0 H H' cs x}, Sub H H' → rep W0 H cs x → rep W0 H' cs x
  leaf : ∀ {W0 H cs x}, rep W0 H cs x → cs.all leafA = true
  sz : α → Nat
instance : Ob Int where
  n := 1
  rep _ _ cs x := cs = [.v (.int .i64 x)] ∧ inI64 x
  len := by rintro _ _ _ _ ⟨rfl, _⟩; rfl
  sub _ h := h
  leaf := by rintro _ _ _ _ ⟨rfl, _⟩; rfl
  sz _ := 0
instance : Ob Bool where
  n := 1
  rep _ _ cs x := cs = [.v (.bool x)]
  len := by rintro _ _ _ _ rfl; rfl
  sub _ h := h
  leaf := by rintro _ _ _ _ rfl; rfl
  sz _ := 0
instance : Ob ByteArray where
  n := 1
  rep _ _ cs x := cs = [.v (.string x)] ∧ x.size ≤ big
  len := by rintro _ _ _ _ ⟨rfl, _⟩; rfl
  sub _ h := h
  leaf := by rintro _ _ _ _ ⟨rfl, _⟩; rfl
  sz x := x.size
inductive Reps {α : Type} [Ob α] (W0 : World) (H : AH) : List AV → List α → Prop
  | nil : Reps W0 H [] []
  | cons {c cs : List AV} {x : α} {xs : List α} : Ob.rep W0 H c x → Reps W0 H cs xs → Reps W0 H (c ++ cs) (x :: xs)
/-- A slice's length, of slices that do not come out of a slicing with a limit. -/
def slN : AV → Option Nat
  | .sl _ _ n => some n
  | .v (.slice _ n _) => some n
  | _ => none
theorem slN_len {v : AV} {n : Nat} (h : slN v = some n) : slLen v = some n := by
  unfold slN at h; split at h <;> first | exact h | cases h
/-- A slice in memory. -/
def SlR {α : Type} [Ob α] (W0 : World) (H : AH) (v : AV) (xs : List α) : Prop :=
  slN v = some xs.length ∧ xs.length ≤ big ∧ ∃ cs, slCells W0 H (Ob.n α) xs.length v = some cs ∧ Reps W0 H cs xs
section
variable {α : Type} [Ob α]
theorem Reps.len {H : AH} {cs : List AV} {xs : List α} (h : Reps W0 H cs xs) : cs.length = xs.length * Ob.n α := by
  induction h with
  | nil => simp
  | cons h _ ih => rw [List.length_append, ih, Ob.len h, List.length_cons, Nat.add_mul]; omega
theorem Reps.sub {H H' : AH} (hs : Sub H H') {cs : List AV} {xs : List α} (h : Reps W0 H cs xs) : Reps W0 H' cs xs := by
  induction h with
  | nil => exact .nil
  | cons h _ ih => exact .cons (Ob.sub hs h) ih
theorem Reps.leaf {H : AH} {cs : List AV} {xs : List α} (h : Reps W0 H cs xs) : cs.all leafA = true := by
  induction h with
  | nil => rfl
  | cons h _ ih => rw [List.all_append, Ob.leaf h, ih]; rfl
theorem Reps.get {H : AH} {cs : List AV} {xs : List α} (h : Reps W0 H cs xs) (i : Nat) (hi : i < xs.length) : Ob.rep W0 H ((cs.drop (i * Ob.n α)).take (Ob.n α)) xs[i] := by
  induction h generalizing i with
  | nil => simp at hi
  | cons h hr ih =>
    cases i with
    | zero =>
      rw [Nat.zero_mul, List.drop_zero]
      rw [← Ob.len h, List.take_left]
      exact h
    | succ i =>
      have := ih i (by simpa using hi)
      rw [Nat.add_mul, Nat.one_mul, Nat.add_comm (i * Ob.n α), ← Ob.len h, ← List.drop_drop, List.drop_left, Ob.len h]
      exact this
theorem Reps.append {H : AH} {cs ds : List AV} {xs ys : List α} (h : Reps W0 H cs xs) (k : Reps W0 H ds ys) : Reps W0 H (cs ++ ds) (xs ++ ys) := by
  induction h with
  | nil => exact k
  | cons h _ ih => rw [List.append_assoc]; exact .cons h ih
theorem Reps.take {H : AH} {cs : List AV} {xs : List α} (h : Reps W0 H cs xs) (i : Nat) : Reps W0 H (cs.take (i * Ob.n α)) (xs.take i) := by
  induction h generalizing i with
  | nil => simp; exact .nil
  | cons h _ ih =>
    cases i with
    | zero => simp; exact .nil
    | succ i =>
      rw [Nat.add_mul, Nat.one_mul, Nat.add_comm (i * Ob.n α), ← Ob.len h, List.take_length_add_append, List.take_succ_cons]
      rw [Ob.len h] ; exact .cons h (ih i)
theorem Reps.drop {H : AH} {cs : List AV} {xs : List α} (h : Reps W0 H cs xs) (i : Nat) : Reps W0 H (cs.drop (i * Ob.n α)) (xs.drop i) := by
  induction h generalizing i with
  | nil => simp; exact .nil
  | cons h hr ih =>
    cases i with
    | zero => simp; exact .cons h hr
    | succ i =>
      rw [Nat.add_mul, Nat.one_mul, Nat.add_comm (i * Ob.n α), ← List.drop_drop, ← Ob.len h, List.drop_left, List.drop_succ_cons, Ob.len h]
      exact ih i
/-- One element is written anew. -/
theorem Reps.set {H : AH} {cs : List AV} {xs : List α} (h : Reps W0 H cs xs) (i : Nat) (hi : i < xs.length) {c : List AV} {x : α} (hc : Ob.rep W0 H c x) : Reps W0 H (wr cs (i * Ob.n α) c) (xs.set i x) := by
  have h1 := h.take i
  have h2 := h.drop (i + 1)
  have : xs.set i x = xs.take i ++ (x :: xs.drop (i + 1)) := by
    rw [List.set_eq_take_append_cons_drop, if_pos hi]
  rw [this, wr, List.append_assoc]
  refine h1.append ?_
  rw [Ob.len hc, show i * Ob.n α + Ob.n α = (i + 1) * Ob.n α by rw [Nat.add_mul]; omega]
  exact .cons hc h2
theorem SlR.sub {H H' : AH} (hs : Sub H H') {v : AV} {xs : List α} (h : SlR W0 H v xs) : SlR W0 H' v xs := by
  obtain ⟨h1, h2, cs, h3, h4⟩ := h
  refine ⟨h1, h2, cs, ?_, h4.sub hs⟩
  cases v with
  | sl b o m =>
    simp only [slCells] at h3 ⊢
    split at h3
    · rename_i hn
      rw [if_pos hn]
      obtain ⟨B, hB, h3⟩ := Option.bind_eq_some_iff.1 h3
      rw [hs.2 _ _ hB]
      exact h3
    · cases h3
  | v x =>
    cases x with
    | slice a n c => cases a <;> exact h3
    | _ => exact h3
  | slc b o n c => cases h1
  | _ => exact h3
theorem SlR.slLen {H : AH} {v : AV} {xs : List α} (h : SlR W0 H v xs) : slLen v = some xs.length := slN_len h.1
theorem SlR.leaf {H : AH} {v : AV} {xs : List α} (h : SlR W0 H v xs) : leafA v = true := by
  have := h.1
  unfold slN at this
  split at this <;> first | rfl | cases this
theorem SlR.one {H : AH} {v : AV} {xs : List α} (h : SlR W0 H v xs) : cellsA v = some [v] := by
  have := h.1
  unfold slN at this
  split at this <;> first | rfl | cases this
instance : Ob (List α) where
  n := 1
  rep W0 H cs xs := ∃ v, cs = [v] ∧ SlR W0 H v xs
  len := by rintro _ _ _ _ ⟨v, rfl, _⟩; rfl
  sub := by rintro _ _ _ _ _ hs ⟨v, rfl, h⟩; exact ⟨v, rfl, h.sub hs⟩
  leaf := by rintro _ _ _ _ ⟨v, rfl, h⟩; simp [h.leaf]
  sz xs := xs.length + (xs.map Ob.sz).sum
theorem mapM_some_iff {β γ : Type} (f : β → Option γ) : ∀ (l : List β) (ys : List γ), l.mapM f = some ys ↔ l.map f = ys.map some
  | [], ys => by cases ys <;> simp
  | x :: l, ys => by
    rw [List.mapM_cons]
    cases hx : f x with
    | none => cases ys <;> simp [hx]
    | some y =>
      cases hl : l.mapM f with
      | none =>
        cases ys with
        | nil => simp
        | cons z ys =>
          have := (mapM_some_iff f l ys).2
          simp only [List.map_cons, hx, List.cons.injEq]
          constructor
          · intro h; simp [hl] at h
          · rintro ⟨_, h⟩; rw [hl] at this; cases this h
      | some zs =>
        have := (mapM_some_iff f l zs).1 hl
        cases ys with
        | nil => simp [hl]
        | cons z ys =>
          simp only [List.map_cons, hx, List.cons.injEq, this]
          simp [hl]
          intro _
          constructor
          · rintro rfl; rfl
          · intro h
            have := congrArg (List.filterMap id) h
            simpa [List.filterMap_map] using this
theorem rdOld_iff {n : Nat} {a : Addr} {l : List Value} : rdOld W0 a n = some l ↔ l.length = n ∧ ∀ i, i < n → W0.cell? (a.add i) = l[i]? := by
  unfold rdOld
  rw [mapM_some_iff]
  constructor
  · intro h
    have h0 := congrArg List.length h
    simp at h0
    refine ⟨h0.symm, fun i hi => ?_⟩
    have := congrArg (fun l => l[i]?) h
    simp [hi] at this
    rw [List.getElem?_eq_getElem (by omega)] at this ⊢
    simpa using this
  · rintro ⟨h0, h1⟩
    apply List.ext_getElem?
    intro i
    by_cases hi : i < n
    · have := h1 i hi
      rw [List.getElem?_eq_getElem (by omega)] at this
      simp [hi, this, h0]
    · simp [hi]
      rw [List.getElem?_eq_none (by omega)]; simp
/-- An element's place, out of a slice. -/
theorem aixs_SlR {K : Kt} {H : AH} {v : AV} {xs : List α} {g : Bool} {s b : Nat} {z : List Value} {k : IntKind} {j : Int} (h : SlR W0 H v xs) (hs : s = Ob.n α) (h0 : 0 ≤ j) (h1 : j < xs.length) (hk : K.k (ixA s v j.toNat) H) : aixs (K := K) (some ⟨g, s, b, z⟩) v (.v (.int k j)) H := by
  obtain ⟨e1, e2, cs, e3, e4⟩ := h
  subst hs
  unfold slCells at e3
  unfold slN at e1
  split at e1
  · simp only at e3
    split at e3
    · obtain ⟨B, hB, e3⟩ := Option.bind_eq_some_iff.1 e3
      split at e3
      · rename_i hB2
        injection e1 with e1
        subst e1
        refine ⟨h0, h1, ?_, hk⟩
        rw [hB]; exact hB2.1
      · cases e3
    · cases e3
  · rename_i a m c
    injection e1 with e1
    subst e1
    cases a with
    | some a => exact ⟨h0, h1, hk⟩
    | none =>
      simp only at e3
      split at e3
      · omega
      · cases e3
  · cases e1
/-- What lies there. -/
theorem SlR.rd {H : AH} {v : AV} {xs : List α} (h : SlR W0 H v xs) (j : Nat) (hj : j < xs.length) : ∃ cs, rdCells W0 H (Ob.n α) (ixA (Ob.n α) v j) = some cs ∧ Ob.rep W0 H cs xs[j] := by
  obtain ⟨e1, e2, cs, e3, e4⟩ := h
  have hl := e4.len
  have hle : (j + 1) * Ob.n α ≤ xs.length * Ob.n α := Nat.mul_le_mul_right _ hj
  rw [Nat.add_mul, Nat.one_mul] at hle
  refine ⟨(cs.drop (j * Ob.n α)).take (Ob.n α), ?_, e4.get j hj⟩
  unfold slCells at e3
  unfold slN at e1
  split at e1
  · rename_i b o m
    injection e1 with e1
    subst e1
    simp only at e3
    split at e3
    · obtain ⟨B, hB, e3⟩ := Option.bind_eq_some_iff.1 e3
      split at e3
      · rename_i hB2
        simp only [Option.some.injEq] at e3
        simp only [ixA, rdCells, hB, Option.bind_some]
        rw [if_pos (by omega), ← e3, List.drop_take, List.take_take, List.drop_drop]
        congr 2
        omega
      · cases e3
    · cases e3
  · rename_i a m c
    injection e1 with e1
    subst e1
    cases a with
    | none =>
      simp only at e3
      split at e3
      · rename_i hz; omega
      · cases e3
    | some a =>
      simp only at e3
      split at e3
      case isFalse => cases e3
      simp only [ixA, rdCells]
      simp only [Option.map_eq_some_iff] at e3 ⊢
      obtain ⟨l, hl1, rfl⟩ := e3
      refine ⟨(l.drop (j * Ob.n α)).take (Ob.n α), ?_, by rw [List.map_take, List.map_drop]⟩
      have hll : l.length = xs.length * Ob.n α := by simpa using hl
      rw [rdOld_iff] at hl1 ⊢
      refine ⟨by simp; omega, fun i hi => ?_⟩
      have h2 := hl1.2 (j * Ob.n α + i) (by omega)
      rw [List.getElem?_take, if_pos hi, List.getElem?_drop, ← h2]
      rw [Addr.add_add]
  · cases e1
theorem SlR.rdn {s : Nat} (hs : s = Ob.n α) {H : AH} {v : AV} {xs : List α} (h : SlR W0 H v xs) (j : Nat) (hj : j < xs.length) : ∃ cs, rdCells W0 H s (ixA s v j) = some cs ∧ Ob.rep W0 H cs xs[j] := by
  subst hs; exact h.rd j hj
end
end
section
/-! The calculus 'Aw' at work, part 5: fresh memory. -/
open Go Go.RowKit
set_option linter.unusedVariables false
set_option linter.unusedSimpArgs false
set_option linter.unusedSectionVars false
variable {P : Program} {W0 : World}
/-- The blocks from n on alone. -/
def AH.above (H : AH) (n : Nat) : AH := ⟨fun b => if b < n then none else H.blk b, H.nxt⟩
theorem above_set {H : AH} {b n : Nat} (h : b < n) (B : Blk) : (H.set b B).above n = H.above n := by
  simp only [AH.above, AH.set, AH.mk.injEq, and_true]
  funext x
  by_cases hx : x < n
  · simp [hx]
  · have : x ≠ b := by omega
    simp [hx, this]
theorem above_sub {H H' : AH} (h : Sub H H') (n : Nat) : Sub (H.above n) (H'.above n) := by
  refine ⟨h.1, fun b B hB => ?_⟩
  simp only [AH.above] at hB ⊢
  split at hB
  · cases hB
  · rename_i hb; rw [if_neg hb]; exact h.2 b B hB
theorem above_le (H : AH) {m n : Nat} (h : m ≤ n) : Sub (H.above n) (H.above m) := by
  refine ⟨Nat.le_refl _, fun b B hB => ?_⟩
  simp only [AH.above] at hB ⊢
  split at hB
  · cases hB
  · rw [if_neg (by omega)]; exact hB
theorem above_all (H : AH) (n : Nat) : Sub (H.above n) H := by
  refine ⟨Nat.le_refl _, fun b B hB => ?_⟩
  simp only [AH.above] at hB
  split at hB
  · cases hB
  · exact hB
theorem above_blk {H : AH} {n b : Nat} (h : n ≤ b) : (H.above n).blk b = H.blk b := by
  simp only [AH.above]; rw [if_neg (by omega)]
theorem Ob.fresh {α : Type} [Ob α] {H : AH} {n : Nat} {cs : List AV} {x : α} (h : Ob.rep W0 (H.above n) cs x) : Ob.rep W0 H cs x := Ob.sub (above_all _ _) h
theorem zeros_len (z : List Value) (n s : Nat) (h : z.length = s) : (zerosA z n).length = n * s := by rw [zerosA_length, h]
/-- A fresh slice under way: its first i elements are laid. -/
structure Laying {α : Type} [Ob α] (W0 : World) (H : AH) (H' : AH) (n i : Nat) (xs : List α) : Prop where
  sub : Sub H H'
  lt : H.nxt < H'.nxt
  blk : ∃ cs, H'.blk H.nxt = some ⟨cs, Ob.n α⟩ ∧ cs.length = n * Ob.n α ∧ Reps W0 (H'.above (H.nxt + 1)) (cs.take (i * Ob.n α)) (xs.take i)
theorem AH.wf.new {H : AH} (h : H.wf) (cs : List AV) (s : Nat) : (H.new cs s).wf := by
  intro b hb
  rw [nxt_new] at hb
  rw [blk_new, if_neg (by omega)]
  exact h b (by omega)
theorem AH.wf.set {H : AH} (h : H.wf) {b : Nat} (hb : b < H.nxt) (B : Blk) : (H.set b B).wf := by
  intro x hx
  rw [nxt_set] at hx
  rw [blk_set, if_neg (by omega)]
  exact h x hx
theorem AH.wf.kill {H : AH} (h : H.wf) (b : Nat) : (H.kill b).wf := by
  intro x hx
  rw [nxt_kill] at hx
  rw [blk_kill]
  split
  · rfl
  · exact h x hx
theorem Laying.start {α : Type} [Ob α] {H : AH} (hw : H.wf) {z : List Value} {n s : Nat} {xs : List α} (hz : z.length = s) (hs : s = Ob.n α) : Laying W0 H (H.new (zerosA z n) s) n 0 xs := by
  subst hs
  refine ⟨(Sub.refl H).new hw _ _, by rw [nxt_new]; omega, zerosA z n, blk_new_self _ _ _, zeros_len _ _ _ hz, ?_⟩
  simp
  exact .nil
theorem Laying.more {α : Type} [Ob α] {H H' H'' : AH} {n i : Nat} {xs : List α} (h : Laying W0 H H' n i xs) (hs : Sub H' H'') : Laying W0 H H'' n i xs := by
  obtain ⟨h1, h2, cs, h4, h5, h6⟩ := h
  exact ⟨h1.trans hs, Nat.lt_of_lt_of_le h2 hs.1, cs, hs.2 _ _ h4, h5, h6.sub (above_sub hs _)⟩
theorem Laying.put {α : Type} [Ob α] {H H' : AH} {n i : Nat} {xs : List α} (hw : H.wf) (h : Laying W0 H H' n i xs) (hi : i < n) (hx : i < xs.length) {c : List AV} (hc : Ob.rep W0 (H'.above (H.nxt + 1)) c xs[i]) {B : Blk} (hB : H'.blk H.nxt = some B) :
    Laying W0 H (H'.set H.nxt ⟨wr B.cells (i * Ob.n α) c, B.esz⟩) n (i + 1) xs := by
  obtain ⟨h1, h2, cs, h4, h5, h6⟩ := h
  rw [hB] at h4
  injection h4 with h4
  subst h4
  have hle : (i + 1) * Ob.n α ≤ n * Ob.n α := Nat.mul_le_mul_right _ hi
  rw [Nat.add_mul, Nat.one_mul] at hle
  have hl := Ob.len hc
  refine ⟨h1.set hw (Nat.le_refl _) _, h2, wr cs (i * Ob.n α) c, by rw [blk_set, if_pos rfl], ?_, ?_⟩
  · simp only [wr, List.length_append, List.length_take, List.length_drop]; omega
  · rw [above_set (Nat.lt_succ_self _)]
    have : (wr cs (i * Ob.n α) c).take ((i + 1) * Ob.n α) = cs.take (i * Ob.n α) ++ c := by
      rw [wr, List.take_append_of_le_length (by simp; rw [Nat.add_mul]; omega), List.take_of_length_le]
      simp; rw [Nat.add_mul]; omega
    rw [this, List.take_succ_eq_append_getElem hx]
    have := Reps.append h6 (Reps.cons hc .nil)
    rwa [List.append_nil] at this
theorem Laying.done {α : Type} [Ob α] {H H' : AH} {xs : List α} (h : Laying W0 H H' xs.length xs.length xs) (hb : xs.length ≤ big) : SlR W0 (H'.above H.nxt) (.sl H.nxt 0 xs.length) xs := by
  obtain ⟨h1, h2, cs, h4, h5, h6⟩ := h
  refine ⟨rfl, hb, cs, ?_, ?_⟩
  · simp only [slCells, Nat.le_refl, if_true, above_blk (Nat.le_refl _), h4, Option.bind_some, Nat.zero_add, true_and, h5, List.drop_zero]
    rw [List.take_of_length_le (by omega)]
  · rw [List.take_of_length_le (by omega), List.take_of_length_le (Nat.le_refl _)] at h6
    exact h6.sub (above_le _ (by omega))
/-- What is left of a budget. -/
def szLeft (left : Int) (n : Nat) : Int := if (n : Int) ≤ left then left - n else -1
theorem szLeft_add {left : Int} {m n : Nat} (h : 0 ≤ szLeft left m) : szLeft (szLeft left m) n = szLeft left (m + n) := by
  unfold szLeft at h ⊢
  split at h
  · rename_i h1; rw [if_pos h1]; by_cases h2 : (n : Int) ≤ left - m
    · rw [if_pos h2, if_pos (by omega)]; omega
    · rw [if_neg h2, if_neg (by omega)]
  · omega
theorem szLeft_neg {left : Int} {m n : Nat} (h : szLeft left m < 0) (hl : 0 ≤ left) : szLeft left (m + n) = -1 := by
  unfold szLeft at h ⊢
  split at h
  · omega
  · rw [if_neg (by omega)]
theorem szLeft_le {left : Int} {m : Nat} (hl : 0 ≤ left) : szLeft left m ≤ left := by unfold szLeft; split <;> omega
theorem szLeft_nonneg {left : Int} {m : Nat} (h : 0 ≤ szLeft left m) : (m : Int) ≤ left := by unfold szLeft at h; split at h <;> omega
theorem szLeft_lt {l : Int} {n : Nat} (h0 : 0 ≤ l) (h : szLeft l n < 0) : l < n := by unfold szLeft at h; split at h <;> omega
theorem szLeft_ge {l : Int} {n : Nat} (h0 : 0 ≤ l) (h : ¬ szLeft l n < 0) : szLeft l n = l - n ∧ 0 ≤ l - n := by
  unfold szLeft at *; split at h
  · rename_i h1; rw [if_pos h1]; omega
  · omega
theorem Sub.blk_eq {H H' : AH} (h : Sub H H') {b : Nat} (hb : (H.blk b).isSome = true) : H'.blk b = H.blk b := by
  obtain ⟨B, hB⟩ := Option.isSome_iff_exists.1 hb
  rw [h.2 b B hB, hB]
theorem Keep.set {H H' : AH} {b n : Nat} (h : Sub (H.above n) (H'.above n)) (hb : b < n) (B : Blk) : Sub (H.above n) ((H'.set b B).above n) := by rw [above_set hb]; exact h
theorem Keep.sub {H H' H'' : AH} {n : Nat} (h : Sub (H.above n) (H'.above n)) (hs : Sub H' H'') : Sub (H.above n) (H''.above n) := h.trans (above_sub hs n)
theorem sum_take_le {α : Type} (f : α → Nat) (xs : List α) (i : Nat) : ((xs.take i).map f).sum ≤ (xs.map f).sum := by
  induction xs generalizing i with
  | nil => simp
  | cons x xs ih =>
    cases i with
    | zero => simp
    | succ i => simp only [List.take_succ_cons, List.map_cons, List.sum_cons]; have := ih i; omega
theorem mem_le_sum (l : List Nat) (n : Nat) (h : n ∈ l) : n ≤ l.sum := by
  induction l with
  | nil => cases h
  | cons x l ih =>
    rcases List.mem_cons.1 h with rfl | h
    · simp only [List.sum_cons]; omega
    · have := ih h; simp only [List.sum_cons]; omega
theorem sz_get_le {α : Type} [Ob α] (xs : List α) (i : Nat) (hi : i < xs.length) : Ob.sz xs[i] ≤ Ob.sz xs := by
  show Ob.sz xs[i] ≤ xs.length + (xs.map Ob.sz).sum
  have : Ob.sz xs[i] ≤ (xs.map Ob.sz).sum := mem_le_sum _ _ (List.mem_map_of_mem (List.getElem_mem hi))
  omega
theorem keep_trans {H Hf : AH} {m n : Nat} (h : Sub (H.above n) (Hf.above n)) (hm : m ≤ n) : Sub (H.above n) (Hf.above m) := h.trans (above_le Hf hm)
end
section
/-! The calculus 'Aw' at work, part 6: what the law is given lies in memory as data. -/
open Go Go.RowKit
set_option linter.unusedVariables false
set_option linter.unusedSimpArgs false
set_option linter.unusedSectionVars false
variable {P : Program}
/-- What is read of a value of the type t is the data of α. -/
def Opens (P : Program) (α : Type) [Ob α] (t : TypeId) : Prop := ∀ {D : Type} (enc : TypeId × Value → D) (W : World) (spare : Nat → Bool) (held : Bool) (fuel : Nat) (cs : List Value) (r : DataW D × List MemPlace),
  DataW.trod enc P W 0 spare held fuel t cs = some r → ∃ x : α, ∀ H : AH, Ob.rep W H (cs.map .v) x
theorem opens_int {t : TypeId} (hu : P.underlying t = some (.int .i64)) : Opens P Int t := by
  intro D enc W spare held fuel cs r h
  cases fuel with
  | zero => cases h
  | succ fuel =>
    rcases cs with _ | ⟨v, _ | ⟨w, tl⟩⟩
    · simp [DataW.trod, hu] at h
    · cases v <;> simp [DataW.trod, hu] at h
      obtain ⟨⟨rfl, hw⟩, _⟩ := h
      refine ⟨_, fun H => ⟨rfl, ?_⟩⟩
      simp [Lit.wf, IntKind.min, IntKind.max, IntKind.bits, IntKind.signed] at hw
      simp only [inI64]
      omega
    · simp [DataW.trod, hu] at h
theorem opens_bool {t : TypeId} (hu : P.underlying t = some .bool) : Opens P Bool t := by
  intro D enc W spare held fuel cs r h
  cases fuel with
  | zero => cases h
  | succ fuel =>
    rcases cs with _ | ⟨v, _ | ⟨w, tl⟩⟩
    · simp [DataW.trod, hu] at h
    · cases v <;> simp [DataW.trod, hu] at h
      exact ⟨_, fun H => rfl⟩
    · simp [DataW.trod, hu] at h
theorem opens_str {t : TypeId} (hu : P.underlying t = some .string) : Opens P ByteArray t := by
  intro D enc W spare held fuel cs r h
  cases fuel with
  | zero => cases h
  | succ fuel =>
    rcases cs with _ | ⟨v, _ | ⟨w, tl⟩⟩
    · simp [DataW.trod, hu] at h
    · cases v <;> simp [DataW.trod, hu] at h
      refine ⟨_, fun H => ⟨rfl, ?_⟩⟩
      have := h.1
      simp only [maxLen] at this
      simp only [big]
      omega
    · simp [DataW.trod, hu] at h
theorem opens_list {α : Type} [Ob α] {t e : TypeId} (hu : P.underlying t = some (.slice e)) (he : Opens P α e) (hn : P.cellsOf e = Ob.n α) : Opens P (List α) t := by
  intro D enc W spare held fuel cs r h
  cases fuel with
  | zero => cases h
  | succ fuel =>
    rcases cs with _ | ⟨v, _ | ⟨w, tl⟩⟩
    · simp [DataW.trod, hu] at h
    · cases v with
      | slice a len cap =>
        cases a with
        | none =>
          by_cases hz : len = 0 ∧ cap = 0
          · obtain ⟨rfl, rfl⟩ := hz
            exact ⟨[], fun H => ⟨_, rfl, rfl, Nat.zero_le _, [], rfl, .nil⟩⟩
          · simp only [DataW.trod, hu] at h
            split at h <;> simp_all
        | some a =>
          simp only [DataW.trod, hu] at h
          split at h
          case isFalse => cases h
          rename_i hc
          obtain ⟨_, hc1, hc2⟩ := hc
          obtain ⟨elems, hel, _⟩ := Option.bind_eq_some_iff.1 h
          rw [mapM_some_iff] at hel
          have hll : elems.length = len := by have := congrArg List.length hel; simpa using this.symm
          have each : ∀ i, i < len → ∃ ci : List Value, rdOld W (a.add (i * Ob.n α)) (Ob.n α) = some ci ∧ ∃ x : α, ∀ H : AH, Ob.rep W H (ci.map .v) x := by
            intro i hi
            have := congrArg (fun l => l[i]?) hel
            simp only [List.getElem?_map, List.getElem?_range hi, Option.map_some] at this
            rw [List.getElem?_eq_getElem (by omega), Option.map_some] at this
            injection this with this
            rw [hn] at this
            obtain ⟨ci, h1, h2⟩ := Option.bind_eq_some_iff.1 this
            refine ⟨ci, ?_, he enc W spare held fuel ci _ h2⟩
            simp only [World.cells?, Nat.zero_le, if_true] at h1
            exact h1
          have all : ∀ m, m ≤ len → ∃ xs : List α, xs.length = m ∧ ∃ l : List Value, rdOld W a (m * Ob.n α) = some l ∧ ∀ H : AH, Reps W H (l.map .v) xs := by
            intro m
            induction m with
            | zero => intro _; exact ⟨[], rfl, [], by simp [rdOld], fun H => .nil⟩
            | succ m ih =>
              intro hm
              obtain ⟨xs, k1, l, k2, k3⟩ := ih (by omega)
              obtain ⟨ci, k4, x, k5⟩ := each m (by omega)
              refine ⟨xs ++ [x], by simp [k1], l ++ ci, ?_, fun H => ?_⟩
              · rw [rdOld_iff] at k2 k4 ⊢
                refine ⟨by rw [List.length_append, k2.1, k4.1, Nat.add_mul]; omega, fun i hi => ?_⟩
                rw [Nat.add_mul, Nat.one_mul] at hi
                by_cases hlt : i < m * Ob.n α
                · rw [k2.2 i hlt, List.getElem?_append_left (by omega)]
                · have := k4.2 (i - m * Ob.n α) (by omega)
                  rw [Addr.add_add] at this
                  rw [show m * Ob.n α + (i - m * Ob.n α) = i by omega] at this
                  rw [this, List.getElem?_append_right (by omega), k2.1]
              · rw [List.map_append]
                have := (k3 H).append (Reps.cons (k5 H) .nil)
                rwa [List.append_nil] at this
          obtain ⟨xs, k1, l, k2, k3⟩ := all len (Nat.le_refl _)
          refine ⟨xs, fun H => ⟨_, rfl, by rw [k1]; rfl, ?_, l.map .v, ?_, k3 H⟩⟩
          · rw [k1]; simp only [maxLen] at hc2; simp only [big]; omega
          · rw [k1]; simp only [slCells, Nat.le_refl, hc1, and_self, if_true, k2, Option.map_some]
      | _ => simp [DataW.trod, hu] at h
    · simp [DataW.trod, hu] at h
theorem cellsOf_tyi {t : TypeId} {g : Bool} {n b : Nat} {z : List Value} (h : tyi P t = some ⟨g, n, b, z⟩) : P.cellsOf t = n := by
  obtain ⟨d, i, z', hd, hi, hz, he⟩ := tyi_run h
  injection he with _ he
  simp only [Program.cellsOf, hi, Option.map_some, Option.getD_some]
  exact he.symm
theorem trod_len {D : Type} {enc : TypeId × Value → D} {W : World} {spare : Nat → Bool} {held : Bool} {fuel : Nat} {t : TypeId} {cs : List Value} {r : DataW D × List MemPlace} {f off : Nat} {ft : TypeId}
    (h : DataW.trod enc P W 0 spare held fuel t cs = some r) (hf : fldt P t f = some (off, ft)) : cs.length = P.cellsOf t := by
  unfold fldt at hf
  split at hf
  case h_2 => cases hf
  rename_i fs hu
  cases fuel with
  | zero => cases h
  | succ fuel =>
    simp only [DataW.trod, hu] at h
    split at h
    · assumption
    · cases h
theorem trod_field {D : Type} {enc : TypeId × Value → D} {W : World} {spare : Nat → Bool} {held : Bool} {fuel : Nat} {t : TypeId} {cs : List Value} {r : DataW D × List MemPlace} {f off : Nat} {ft : TypeId}
    (h : DataW.trod enc P W 0 spare held fuel t cs = some r) (hf : fldt P t f = some (off, ft)) : ∃ fuel' r', DataW.trod enc P W 0 spare held fuel' ft ((cs.drop off).take (P.cellsOf ft)) = some r' := by
  unfold fldt at hf
  split at hf
  case h_2 => cases hf
  rename_i fs hu
  cases fuel with
  | zero => cases h
  | succ fuel =>
    simp only [DataW.trod, hu] at h
    split at h
    case isFalse => cases h
    obtain ⟨xs, hx, _⟩ := Option.map_eq_some_iff.1 h
    rw [mapM_some_iff] at hx
    obtain ⟨fd, hfd, he⟩ := Option.map_eq_some_iff.1 hf
    injection he with he1 he2
    subst he1 he2
    have hlen : f < fs.toList.length := by
      have := (Array.getElem?_eq_some_iff.1 hfd).1
      simpa using this
    have := congrArg (fun l => l[f]?) hx
    have hl2 := congrArg List.length hx
    simp only [List.length_map] at hl2
    simp only [List.getElem?_map] at this
    rw [show fs.toList[f]? = some fd by simpa using hfd, List.getElem?_eq_getElem (by omega)] at this
    simp only [Option.map_some, Option.some.injEq] at this
    exact ⟨fuel, _, this⟩
theorem of_intKd {t : TypeId} {k : IntKind} (h : intKd P t = some k) : P.underlying t = some (.int k) := by
  unfold intKd at h; split at h
  · rename_i hu; injection h with h; subst h; exact hu
  · cases h
theorem of_isStr {t : TypeId} (h : isStr P t = true) : P.underlying t = some .string := by
  unfold isStr at h; split at h
  · assumption
  · cases h
theorem of_elt {t e : TypeId} (h : elt P t = some e) : P.underlying t = some (.slice e) := by
  unfold elt at h; split at h
  · rename_i hu; injection h with h; subst h; exact hu
  · cases h
theorem VR.aggv {φ : Phi} (c : Array Value) : VR φ (.agg (c.toList.map .v)) (.agg c) := by
  have := VR.agg (VRs.vs (φ := φ) c.toList)
  simpa using this
theorem slr_of {α : Type} [Ob α] {W : World} {H : AH} {v : Value} {xs : List α} (h : Ob.rep W H ([v].map .v) xs) : SlR W H (.v v) xs := by
  obtain ⟨u, hu, hs⟩ := h
  injection hu with hu
  rw [hu]; exact hs
end
section
/-! The calculus 'Aw' at work, part 7: rules that a proof is stepped with. -/
open Go Go.RowKit
set_option linter.unusedVariables false
set_option linter.unusedSimpArgs false
set_option linter.unusedSectionVars false
variable {P : Program} {W0 : World}
attribute [go_sem] reduceIte Nat.reduceEqDiff Nat.reduceAdd Nat.reduceMul Nat.reduceLeDiff List.map_cons List.map_nil Option.map_some Option.map_none Bool.not_true Bool.not_false Option.isSome_some Option.bind_some bytes_eq_iff Nat.zero_add Nat.add_zero Nat.mul_one List.length_cons List.length_nil List.drop_succ_cons List.drop_zero List.take_succ_cons List.take_zero List.headD_cons true_and and_true List.append_nil List.nil_append List.cons_append decide_true decide_false Nat.add_assoc Nat.add_left_cancel_iff if_false if_true Int.toNat_natCast
attribute [go_sem] List.all_cons List.all_nil leafA_int leafA_bool leafA_string leafA_slice leafA_pointer leafA_sl leafA_slc leafA_sl0 leafA_ptr leafA_fn Bool.and_true Bool.true_and
theorem Sub.kill_new {H H' : AH} (hw : H.wf) (h : Sub H H') (cs : List AV) (s : Nat) : Sub H ((H'.new cs s).kill H'.nxt) := (h.new hw cs s).kill hw h.1
/-! ### More equations -/
section
variable {H : AH} {K : Kt}
def aconvI (d : Option IntKind) (s : Bool) (k : IntKind) (a : Int) (H : AH) [K : Kt] : Prop := match d, s with | some k', true => K.k (.v (.int k' (k'.wrap a))) H | _, _ => False
theorem conv_int' (src dst : TypeId) (k : IntKind) (a : Int) : aconv P W0 src dst (.v (.int k a)) H = aconvI (intKd P dst) (P.underlying src).isSome k a H := rfl
theorem aconvI_some (k' k : IntKind) (a : Int) : aconvI (some k') true k a H = K.k (.v (.int k' (k'.wrap a))) H := rfl
theorem isInt_kd (t : TypeId) : isInt P t = (intKd P t).isSome := by
  unfold isInt intKd
  cases P.underlying t with
  | none => rfl
  | some d => cases d <;> rfl
def aappZ (P : Program) (W0 : World) (H : AH) (e : TypeId) (z : Bool) (dst src : AV) [K : Kt] : Prop := match z, src with | true, .v (.int .i64 m) => 0 ≤ m ∧ aappendz P W0 H e dst m.toNat K.k | _, _ => False
theorem aappZ_int (e : TypeId) (dst : AV) (m : Int) : aappZ P W0 H e true dst (.v (.int .i64 m)) = (0 ≤ m ∧ aappendz P W0 H e dst m.toNat K.k) := rfl
def aappE (P : Program) (W0 : World) (H : AH) (a b : Option TypeId) (z : Bool) (dst src : AV) [K : Kt] : Prop := match a, b with | some e, some _ => aapp P W0 H (tyi P e) dst src | some e, none => aappZ P W0 H e z dst src | _, _ => False
theorem abi_append' (t t' : TypeId) (dst src : AV) : abi P W0 .append [t, t'] [dst, src] H = aappE P W0 H (elt P t) (elt P t') (intKd P t').isSome dst src := by
  simp only [abi, abuiltin, aappE, ← isInt_kd]
  cases elt P t <;> cases elt P t' <;> rfl
theorem aappE_some (e e' : TypeId) (z : Bool) (dst src : AV) : aappE P W0 H (some e) (some e') z dst src = aapp P W0 H (tyi P e) dst src := rfl
theorem aappE_none (e : TypeId) (z : Bool) (dst src : AV) : aappE P W0 H (some e) none z dst src = aappZ P W0 H e z dst src := rfl
end
/-- 'wr', to be reckoned out. -/
def xs' (l : List AV) (o : Nat) (cs : List AV) : List AV := wr l o cs
def fillS1 (s : Nat) (cs : List AV) (i : Nat) (xs : Option (List AV)) (rest : List (Nat × AV)) : Option (List AV) := match xs with
  | some xs => if xs.length = s ∧ i * s + s ≤ cs.length then fillS s (wr cs (i * s) xs) rest else none
  | none => none
theorem fillS_nil (s : Nat) (cs : List AV) : fillS s cs [] = some cs := rfl
theorem fillS_cons (s : Nat) (cs : List AV) (i : Nat) (x : AV) (rest : List (Nat × AV)) : fillS s cs ((i, x) :: rest) = fillS1 s cs i (cellsA x) rest := by simp only [fillS, fillS1]; cases cellsA x <;> rfl
theorem fillS1_some (s : Nat) (cs : List AV) (i : Nat) (xs : List AV) (rest : List (Nat × AV)) : fillS1 s cs i (some xs) rest = if xs.length = s ∧ i * s + s ≤ cs.length then fillS s (xs' cs (i * s) xs) rest else none := rfl
def fillA1 (pl : List (Nat × Nat)) (cs : List AV) (p : Option (Nat × Nat)) (xs : Option (List AV)) (rest : List (Nat × AV)) : Option (List AV) := match p, xs with
  | some (off, size), some xs => if xs.length = size ∧ off + size ≤ cs.length then fillA pl (wr cs off xs) rest else none
  | _, _ => none
theorem fillA_nil (pl : List (Nat × Nat)) (cs : List AV) : fillA pl cs [] = some cs := rfl
theorem fillA_cons (pl : List (Nat × Nat)) (cs : List AV) (i : Nat) (x : AV) (rest : List (Nat × AV)) : fillA pl cs ((i, x) :: rest) = fillA1 pl cs (pl[i]?) (cellsA x) rest := by simp only [fillA, fillA1]; cases pl[i]? <;> cases cellsA x <;> rfl
theorem fillA1_some (pl : List (Nat × Nat)) (cs : List AV) (off size : Nat) (xs : List AV) (rest : List (Nat × AV)) : fillA1 pl cs (some (off, size)) (some xs) rest = if xs.length = size ∧ off + size ≤ cs.length then fillA pl (xs' cs off xs) rest else none := rfl
theorem zerosA_zero (z : List Value) : zerosA z 0 = [] := rfl
theorem zerosA_succ (z : List Value) (n : Nat) : zerosA z (n + 1) = z.map AV.v ++ zerosA z n := by simp [zerosA, List.replicate_succ]
theorem xs'_eq (l : List AV) (o : Nat) (cs : List AV) : xs' l o cs = l.take o ++ (cs ++ l.drop (o + cs.length)) := by simp [xs', wr]
theorem set_new2 (H : AH) (cs ds : List AV) (s r : Nat) (B : Blk) : ((H.new cs s).new ds r).set H.nxt B = (H.new B.cells B.esz).new ds r := by
  simp only [AH.new, AH.set, AH.mk.injEq, and_true]
  funext b
  by_cases h : b = H.nxt
  · subst h; simp
  · simp [h]
theorem set_new3 (H : AH) (cs ds fs : List AV) (s r q : Nat) (B : Blk) : (((H.new cs s).new ds r).new fs q).set H.nxt B = ((H.new B.cells B.esz).new ds r).new fs q := by
  simp only [AH.new, AH.set, AH.mk.injEq, and_true]
  funext b
  by_cases h : b = H.nxt
  · subst h; simp; omega
  · simp [h]
theorem set_new_b (H : AH) (cs ds : List AV) (s r : Nat) (B : Blk) : ((H.new cs s).new ds r).set (H.nxt + 1) B = (H.new cs s).new B.cells B.esz := set_new (H.new cs s) ds r B
theorem set_new_c (H : AH) (cs ds fs : List AV) (s r q : Nat) (B : Blk) : (((H.new cs s).new ds r).new fs q).set (H.nxt + 2) B = ((H.new cs s).new ds r).new B.cells B.esz := set_new ((H.new cs s).new ds r) fs q B
theorem set_new_d (H : AH) (cs ds fs : List AV) (s r q : Nat) (B : Blk) : (((H.new cs s).new ds r).new fs q).set (H.nxt + 1) B = ((H.new cs s).new B.cells B.esz).new fs q := set_new2 (H.new cs s) ds fs r q B
attribute [go_sem] eq_self beq_self_eq_true set_new_b set_new_c set_new_d
attribute [go_sem] conv_int' aconvI_some abi_append' aappE_some aappE_none aappZ_int fillS_nil fillS_cons fillS1_some fillA_nil fillA_cons fillA1_some xs'_eq List.getElem?_cons_zero List.getElem?_cons_succ and_self
def aixsO (B : Option Blk) (s n b o : Nat) (j : Int) (H : AH) [K : Kt] : Prop := match B with | some B => 0 ≤ j ∧ j < n ∧ B.esz = s ∧ K.k (.ptr b (o + j.toNat * s)) H | none => False
theorem aixs_own {K : Kt} {H : AH} (g : Bool) (s b' b o n : Nat) (z : List Value) (k : IntKind) (j : Int) : aixs (K := K) (some ⟨g, s, b', z⟩) (.sl b o n) (.v (.int k j)) H = aixsO (H.blk b) s n b o j H := by
  simp only [aixs, aixsO]
  cases H.blk b with
  | none => simp
  | some B => rfl
theorem aixsO_some {K : Kt} {H : AH} (cs : List AV) (s' s n b o : Nat) (j : Int) : aixsO (K := K) (some ⟨cs, s'⟩) s n b o j H = (0 ≤ j ∧ j < n ∧ s' = s ∧ K.k (.ptr b (o + j.toNat * s)) H) := rfl
theorem wr_eq (l : List AV) (o : Nat) (cs : List AV) : wr l o cs = l.take o ++ (cs ++ l.drop (o + cs.length)) := by simp [wr]
attribute [go_sem] wr_eq aixs_own aixsO_some Int.reduceAdd Int.reduceSub Int.reduceMul Int.reduceToNat Int.reduceNeg Int.reduceLT Int.reduceLE Int.reduceEq zerosA_zero zerosA_succ Bool.false_eq_true set_new set_new2 set_new3
attribute [-go_sem] conv_int abi_append
theorem adraw_seq {ops : Array Oper} {Q : Env → AH → Prop} {e : Env} {H : AH} (hf : P.follows .mixedOrders = true) (h : okPlan ops ((List.range ops.size).map fun i => (i, [])) = true) (k : aops P W0 ops ops.toList Q e H) : adraw P W0 ops Q e H := by
  simp only [okPlan, Bool.and_eq_true] at h
  have hr : ((List.range ops.size).map fun i => (i, ([] : List Nat))).map (·.1) = List.range ops.size := by simp [List.map_map, Function.comp_def]
  rw [hr] at h
  refine ⟨hf, .inl ⟨List.range ops.size, h.1.1, by simp, ?_⟩⟩
  have go : ∀ (os : List Oper) (i : Nat) (hist : List Nat) (e : Env) (H : AH), (∀ k, os[k]? = ops[i + k]?) → planOk ops (befOf ops) hist ((List.range os.length).map fun k => (i + k, [])) = true → aops P W0 ops os Q e H → wl P W0 ops (befOf ops) Q hist ((List.range os.length).map (i + ·)) e H := by
    intro os
    induction os with
    | nil => intro i hist e H _ _ h; exact h
    | cons o os ih =>
      intro i hist e H hi hp h
      have hl : (List.range (o :: os).length).map (i + ·) = i :: (List.range os.length).map (i + 1 + ·) := by
        rw [List.length_cons, List.range_succ_eq_map, List.map_cons, List.map_map]
        congr 1
        apply List.map_congr_left
        intro k _
        simp; omega
      have hl2 : ((List.range (o :: os).length).map fun k => (i + k, ([] : List Nat))) = (i, []) :: (List.range os.length).map fun k => (i + 1 + k, []) := by
        rw [List.length_cons, List.range_succ_eq_map, List.map_cons, List.map_map]
        congr 1
        apply List.map_congr_left
        intro k _
        simp; omega
      have ho : ops[i]? = some o := by have := hi 0; simpa using this.symm
      have hk : ∀ k, os[k]? = ops[i + 1 + k]? := fun k => by have := hi (k + 1); simpa [Nat.add_assoc, Nat.add_comm 1 k] using this
      rw [hl2] at hp
      rw [hl]
      simp only [wl, ho]
      rw [aops_raw] at h
      simp only [planOk, getO_eq ho] at hp
      split
      · rename_i hq
        rw [if_pos hq] at hp
        exact raw1_mono (fun v H' hk' => ih _ _ _ _ hk hp hk') h
      · rename_i hq
        rw [if_neg hq] at hp
        simp only [Bool.and_eq_true, List.all_eq_true] at hp
        refine raw1_mono (fun v H' hk' => ⟨fun j hj hb => ?_, ih _ _ _ _ hk hp.2 hk'⟩) h
        have := hp.1 j hj
        simp [hb] at this
  have := go ops.toList 0 [] e H (fun k => by simp) (by simpa using h.2) k
  simpa using this
theorem back {σ : Type} {μ : σ → Nat} {m : Nat} {e : Env} {F : σ → List (Nat × AV)} {I : σ → Prop} (s' : σ) (hI : I s') (hμ : μ s' < m := by omega)
    (hf : frOk e (F s') := by first | (simp only [frOk, go_sem]; done) | (simp only [frOk, go_sem, Int.natCast_add, Int.natCast_one]; done) | (simp only [frOk, go_sem]; simp; done)) : ∃ s', μ s' < m ∧ frOk e (F s') ∧ I s' := ⟨s', hμ, hf, hI⟩
/-! ### Strings -/
def bt (s : ByteArray) (n : Nat) : Int := ((s[n]?).getD 0).toNat
theorem bt_le (s : ByteArray) (n : Nat) : 0 ≤ bt s n ∧ bt s n ≤ 255 := by
  unfold bt
  have := (s[n]?.getD 0).toNat_lt
  omega
/-! ### Bytes -/
section
variable {H : AH} {K : Kt}
def aconvS2 (ik : Option IntKind) (l : Option (List Int)) (H : AH) [K : Kt] : Prop := match ik, l with | some .u8, some l => K.k (.v (.string (strOfNums l))) H | _, _ => False
def aconvS (P : Program) (W0 : World) (el : Option TypeId) (d : Bool) (b o n : Nat) (H : AH) [K : Kt] : Prop := match el, d with | some e, true => aconvS2 (intKd P e) ((slCells W0 H 1 n (.sl b o n)).bind intsOf) H | _, _ => False
theorem conv_sl (src dst : TypeId) (b o n : Nat) : aconv P W0 src dst (.sl b o n) H = aconvS P W0 (elt P src) (isStr P dst) b o n H := by
  simp only [aconv, aconvS]
  cases elt P src with
  | none => rfl
  | some e =>
    cases isStr P dst with
    | false => rfl
    | true =>
      simp only [aconvS2]
      cases (slCells W0 H 1 n (.sl b o n)).bind intsOf with
      | none => cases intKd P e <;> simp
      | some l =>
        cases intKd P e with
        | none => simp
        | some k => cases k <;> simp
theorem aconvS_some (e : TypeId) (b o n : Nat) : aconvS P W0 (some e) true b o n H = aconvS2 (intKd P e) ((slCells W0 H 1 n (.sl b o n)).bind intsOf) H := rfl
theorem aconvS2_some (l : List Int) : aconvS2 (some .u8) (some l) H = K.k (.v (.string (strOfNums l))) H := rfl
theorem slCells_own (s n b o m : Nat) : slCells W0 H s n (.sl b o m) = if n ≤ m then (H.blk b).bind fun B => if B.esz = s ∧ o + n * s ≤ B.cells.length then some ((B.cells.drop o).take (n * s)) else none else none := rfl
theorem intsOf_nil : intsOf [] = some [] := rfl
theorem intsOf_cons (n : Int) (l : List AV) : intsOf (.v (.int .u8 n) :: l) = (intsOf l).map (n :: ·) := rfl
def aapp2 (B : Option Blk) (new : Option (List AV)) (s by' z : Nat) (b o n m : Nat) (H : AH) [K : Kt] : Prop := match B, new with
  | some B, some new => 0 < s ∧ 0 < by' ∧ z = s ∧ new.all leafA = true ∧ B.esz = s ∧ o + n * s ≤ B.cells.length ∧ (n + m) * by' ≤ 140737488355328 ∧ K.k (.sl H.nxt 0 (n + m)) ((H.kill b).new ((B.cells.drop o).take (n * s) ++ new) s)
  | _, _ => False
theorem aapp_sl (g : Bool) (s by' : Nat) (z : List Value) (b o n : Nat) (src : AV) : aapp P W0 H (some ⟨g, s, by', z⟩) (.sl b o n) src = match lenA src with | some m => aapp2 (H.blk b) (slCells W0 H s m src) s by' z.length b o n m H | none => False := by
  simp only [aapp]
  cases hs : lenA src with
  | none => rfl
  | some m =>
    simp only
    cases slCells W0 H s m src with
    | none => simp only [aapp2]; cases H.blk b <;> rfl
    | some new => cases H.blk b <;> simp [aapp2]
theorem aapp_own (g : Bool) (s by' : Nat) (z : List Value) (b o n b' o' m : Nat) : aapp P W0 H (some ⟨g, s, by', z⟩) (.sl b o n) (.sl b' o' m) = aapp2 (H.blk b) (slCells W0 H s m (.sl b' o' m)) s by' z.length b o n m H := aapp_sl g s by' z b o n _
theorem aapp2_some (cs new : List AV) (s' s by' z b o n m : Nat) : aapp2 (some ⟨cs, s'⟩) (some new) s by' z b o n m H = (0 < s ∧ 0 < by' ∧ z = s ∧ new.all leafA = true ∧ s' = s ∧ o + n * s ≤ cs.length ∧ (n + m) * by' ≤ 140737488355328 ∧ K.k (.sl H.nxt 0 (n + m)) ((H.kill b).new ((cs.drop o).take (n * s) ++ new) s)) := rfl
theorem bop_shl8 (t : TypeId) (a : Int) : abinop P .shl t (.v (.int .i64 a)) (.v (.int .u64 8)) H = K.k (.v (.int .i64 (IntKind.i64.wrap (a * 256)))) H := by simp [abinop, abin, IntKind.bits]
theorem bop_shr8 (t : TypeId) (a : Int) : abinop P .shr t (.v (.int .i64 a)) (.v (.int .u64 8)) H = K.k (.v (.int .i64 (a / 256))) H := by simp [abinop, abin, IntKind.bits, Int.fdiv_eq_ediv]
theorem bop_sleq (t : TypeId) (s u : ByteArray) : abinop P .leq t (.v (.string s)) (.v (.string u)) H = K.k (.v (.bool (Op.bytesLess s.toList u.toList || s.toList == u.toList))) H := by simp [abinop, abin]
theorem bop_sgtr (t : TypeId) (s u : ByteArray) : abinop P .gtr t (.v (.string s)) (.v (.string u)) H = K.k (.v (.bool (!(Op.bytesLess s.toList u.toList || s.toList == u.toList)))) H := by simp [abinop, abin]
attribute [go_sem] bop_shl8 bop_shr8 bop_sleq bop_sgtr
attribute [go_sem] conv_sl aconvS_some aconvS2_some intsOf_nil intsOf_cons aapp2_some Nat.le_refl ne_eq not_false_eq_true
theorem wrap_in (n : Int) (h0 : -9223372036854775808 ≤ n) (h1 : n ≤ 9223372036854775807) : IntKind.i64.wrap n = n := Go.IntWalk.i64_in n ⟨h0, h1⟩
theorem u8_small (n : Int) (h0 : 0 ≤ n) (h1 : n < 256) : IntKind.u8.wrap n = n := by simp [IntKind.wrap, IntKind.bits, IntKind.signed]; omega
theorem intsOf_map (l : List Int) : intsOf (l.map fun x => AV.v (.int .u8 x)) = some l := by
  induction l with
  | nil => rfl
  | cons x l ih => rw [List.map_cons, intsOf_cons, ih]; rfl
theorem slCells_whole {cs : List AV} {s n b : Nat} (hB : H.blk b = some ⟨cs, s⟩) (hn : cs.length = n * s) : slCells W0 H s n (.sl b 0 n) = some cs := by
  rw [slCells_own, if_pos (Nat.le_refl _), hB]
  simp [hn]
  rw [List.take_of_length_le (by omega)]
theorem slInts {l : List Int} {b : Nat} (hB : H.blk b = some ⟨l.map fun x => AV.v (.int .u8 x), 1⟩) : (slCells W0 H 1 l.length (.sl b 0 l.length)).bind intsOf = some l := by
  rw [slCells_whole hB (by simp), Option.bind_some, intsOf_map]
theorem slInts' {l : List Int} {b n : Nat} (hB : H.blk b = some ⟨l.map fun x => AV.v (.int .u8 x), 1⟩) (hn : l.length = n) : (slCells W0 H 1 n (.sl b 0 n)).bind intsOf = some l := by subst hn; exact slInts hB
theorem zerosA_one (v : Value) (n : Nat) : zerosA [v] n = List.replicate n (AV.v v) := by
  induction n with
  | zero => rfl
  | succ n ih => rw [zerosA_succ, ih, List.replicate_succ]; rfl
theorem app_rule {g : Bool} {s by' : Nat} {z : List Value} {b o n m : Nat} {src : AV} {cs new : List AV} (hB : H.blk b = some ⟨cs, s⟩) (hn : slCells W0 H s m src = some new) (hm : slLen src = some m) (hl : new.all leafA = true) (h1 : o + n * s ≤ cs.length) (h2 : (n + m) * by' ≤ 140737488355328)
    (k : K.k (.sl H.nxt 0 (n + m)) ((H.kill b).new ((cs.drop o).take (n * s) ++ new) s)) (h3 : 0 < s := by decide) (h4 : 0 < by' := by decide) (h5 : z.length = s := by rfl) : aapp (K := K) P W0 H (some ⟨g, s, by', z⟩) (.sl b o n) src := by
  rw [aapp_sl, lenA_of hm]
  simp only [hB, hn]
  exact ⟨h3, h4, h5, hl, rfl, h1, h2, k⟩
theorem u8_wrap (n : Int) : IntKind.u8.wrap n = n % 256 := by simp [IntKind.wrap, IntKind.bits, IntKind.signed]
theorem bt_nums (l : List Int) (i : Nat) (h : i < l.length) (h0 : ∀ x ∈ l, 0 ≤ x ∧ x < 256) : bt (strOfNums l) i = l[i] := by
  have hx := h0 l[i] (List.getElem_mem h)
  have hs : i < (strOfNums l).size := by rw [strOfNums_size]; exact h
  have hb : (strOfNums l)[i]? = some (UInt8.ofNat (l[i]).toNat) := by
    rw [show (strOfNums l)[i]? = some ((strOfNums l)[i]'hs) by simp [hs]]
    congr 1
    show (strOfNums l).data[i] = _
    simp [strOfNums]
  simp only [bt, hb, Option.getD_some, UInt8.toNat_ofNat']
  omega
end
/-! ### Choices, told as propositions -/
theorem acond_dec {p : Prop} {d : Decidable p} {K : K2} (ha : p → K.a) (hb : ¬ p → K.b) : acond (K := K) (.v (.bool (@decide p d))) := acond_split (fun h => ha (of_decide_eq_true h)) (fun h => hb (of_decide_eq_false h))
theorem acond_ndec {p : Prop} {d : Decidable p} {K : K2} (ha : ¬ p → K.a) (hb : p → K.b) : acond (K := K) (.v (.bool (!(@decide p d)))) := by
  by_cases h : p
  · simpa [acond, h] using hb h
  · simpa [acond, h] using ha h
theorem agrd_bt {b : Bool} {K : K3} (ha : b = true → K.a) (hb : b = false → K.b) : agrd (K := K) (.v (.bool b)) true := agrd_split ha hb
theorem agrd_bf {b : Bool} {K : K3} (ha : b = false → K.a) (hb : b = true → K.b) : agrd (K := K) (.v (.bool b)) false := agrd_split ha hb
theorem agrd_dec {p : Prop} {d : Decidable p} {K : K3} (ha : p → K.a) (hb : ¬ p → K.b) : agrd (K := K) (.v (.bool (@decide p d))) true :=
  agrd_split (fun h => ha (of_decide_eq_true h)) (fun h => hb (of_decide_eq_false h))
theorem agrd_decf {p : Prop} {d : Decidable p} {K : K3} (ha : ¬ p → K.a) (hb : p → K.b) : agrd (K := K) (.v (.bool (@decide p d))) false :=
  agrd_split (fun h => ha (of_decide_eq_false h)) (fun h => hb (of_decide_eq_true h))
theorem agrd_ndec {p : Prop} {d : Decidable p} {K : K3} (ha : ¬ p → K.a) (hb : p → K.b) : agrd (K := K) (.v (.bool (!(@decide p d)))) true :=
  agrd_split (fun h => ha (by simpa using h)) (fun h => hb (by simpa using h))
theorem agrd_ndecf {p : Prop} {d : Decidable p} {K : K3} (ha : p → K.a) (hb : ¬ p → K.b) : agrd (K := K) (.v (.bool (!(@decide p d)))) false :=
  agrd_split (fun h => ha (by simpa using h)) (fun h => hb (by simpa using h))
/-! ### Calls whose outcome is told -/
theorem ACallK.eq {K : Kt} {g : FuncId} {xs : List AV} {H : AH} {r : AV} (h : ACalls P W0 g xs H (fun v H' => v = r ∧ H' = H)) (k : K.k r H) : ACallK (K := K) P W0 g xs H :=
  ACallK.of h (by rintro _ _ ⟨rfl, rfl⟩; exact k)
theorem retK_eq {N0 : Nat} {H : AH} {r v : AV} (h : v = r) : retK N0 H (fun v H' => v = r ∧ H' = H) (some [v]) := retK_one ⟨h, rfl⟩
theorem retK_back {H H' : AH} {r v : AV} (hc : H.closed) (h : v = r) (hs : Sub H H' := by repeat (first | exact Sub.refl _ | assumption | refine Sub.new (by assumption) ?_ _ _ | refine Sub.kill_new (by assumption) ?_ _ _ | refine Sub.trans ?_ (by assumption))) (hv : refsLt H.nxt v := by first | trivial | (simp only [refsLt, refsLts, and_self]; done)) : retK H.nxt H' (fun v H' => v = r ∧ H' = H) (some [v]) := retK_same hc hs hv ⟨h, rfl⟩
theorem retK_eq2 {N0 : Nat} {H : AH} {r v w : AV} {l : List AV} (h : AV.tup (v :: w :: l) = r) : retK N0 H (fun v H' => v = r ∧ H' = H) (some (v :: w :: l)) := retK_two ⟨h, rfl⟩
theorem retK_back2 {H H' : AH} {r v w : AV} {l : List AV} (hc : H.closed) (h : AV.tup (v :: w :: l) = r) (hs : Sub H H' := by repeat (first | exact Sub.refl _ | assumption | refine Sub.new (by assumption) ?_ _ _ | refine Sub.kill_new (by assumption) ?_ _ _ | refine Sub.trans ?_ (by assumption))) (hv : refsLt H.nxt (.tup (v :: w :: l)) := by first | trivial | (simp only [refsLt, refsLts, and_self]; done)) : retK H.nxt H' (fun v H' => v = r ∧ H' = H) (some (v :: w :: l)) :=
  ⟨H, .inr ⟨Nat.le_refl _, hs.2, hc.1, .inr ⟨hs.1, hc.2⟩⟩, .inr hv, h, rfl⟩
theorem tv {a b : List AV} (h : a = b) : AV.tup a = AV.tup b := by rw [h]
/-- A function's contract out of its code; the memory is closed. -/
theorem acallw {f : FuncId} {fn : Func} {c : Code} (hf : P.funcs[f]? = some fn) (hb : fn.body = some c) (hc : callable P f = true) {args : List AV} (hd : dstsOk (args.length + (fn.ntmps - args.length)) c = true) {H : AH} {R : AV → AH → Prop}
    (h : H.closed → H.wf → acode P W0 H.nxt c (retA P W0 H.nxt fn.results.toList R) (env0 args) H) : ACalls P W0 f args H R :=
  acalls hf hb hc hd fun h1 => h h1 h1.1
theorem bv {a b : Bool} (h : a = true ↔ b = true) : AV.v (.bool a) = AV.v (.bool b) := by rw [Bool.eq_iff_iff.2 h]
theorem iv {k : IntKind} {a b : Int} (h : a = b) : AV.v (.int k a) = AV.v (.int k b) := by rw [h]
theorem sv {a b : ByteArray} (h : a = b) : AV.v (.string a) = AV.v (.string b) := by rw [h]
/-! ### Loops -/
section
variable {all : Array Oper}
theorem aops_mono {Q Q' : Env → AH → Prop} (hq : ∀ e H, Q e H → Q' e H) : ∀ (os : List Oper) (e : Env) (H : AH), aops P W0 all os Q e H → aops P W0 all os Q' e H
  | [], e, H, h => hq _ _ h
  | o :: os, e, H, h => by
    rw [aops_raw] at h ⊢
    exact raw1_mono (fun v H' k => aops_mono hq os _ _ k) h
theorem wl_mono {bef : Nat → Nat → Bool} {Q Q' : Env → AH → Prop} (hq : ∀ e H, Q e H → Q' e H) : ∀ (l hist : List Nat) (e : Env) (H : AH), wl P W0 all bef Q hist l e H → wl P W0 all bef Q' hist l e H
  | [], _, _, _, h => hq _ _ h
  | i :: l, hist, e, H, h => by
    simp only [wl] at h ⊢
    split at h
    · split at h
      · rename_i hx
        rw [if_pos hx]
        exact raw1_mono (fun v H' hk => wl_mono hq l _ _ _ hk) h
      · rename_i hx
        rw [if_neg hx]
        exact raw1_mono (fun v H' hk => ⟨hk.1, wl_mono hq l _ _ _ hk.2⟩) h
    · exact h
end
theorem adraw_mono {ops : Array Oper} {Q Q' : Env → AH → Prop} (hq : ∀ e H, Q e H → Q' e H) {e : Env} {H : AH} (h : adraw P W0 ops Q e H) : adraw P W0 ops Q' e H := by
  obtain ⟨hf, ⟨ord, h1, h2, h3⟩ | ⟨t, h1, h2⟩⟩ := h
  · exact ⟨hf, .inl ⟨ord, h1, h2, wl_mono hq _ _ _ _ h3⟩⟩
  · exact ⟨hf, .inr ⟨t, h1, wt_monoQ hq _ _ _ _ h2⟩⟩
theorem acode_mono {N0 : Nat} : ∀ {c : Code} {Q Q' : AX → Env → AH → Prop} {e : Env} {H : AH}, (∀ x e H, Q x e H → Q' x e H) → acode P W0 N0 c Q e H → acode P W0 N0 c Q' e H := by
  intro c
  induction c with
  | skip => intro Q Q' e H hq h; exact hq _ _ _ h
  | region id ops draw =>
    intro Q Q' e H hq h
    simp only [acode] at h ⊢
    split
    · rename_i hd; rw [if_pos hd] at h; exact adraw_mono (hq _) h
    · rename_i hd; rw [if_neg hd] at h; exact aops_mono (hq _) _ _ _ h
  | seq a b iha ihb =>
    intro Q Q' e H hq h
    simp only [acode] at h ⊢
    refine iha (fun x e H k => ?_) h
    cases x with
    | normal => exact ihb hq k
    | exit n => exact hq _ _ _ k
    | ret => exact hq _ _ _ k
  | cond c a b iha ihb =>
    intro Q Q' e H hq h
    simp only [acode] at h ⊢
    split at h
    · split at h
      · rename_i ht; rw [if_pos ht]; exact iha hq h
      · rename_i ht; rw [if_neg ht]; exact ihb hq h
    · exact h
  | block id c ih =>
    intro Q Q' e H hq h
    simp only [acode] at h ⊢
    refine ih (fun x e H k => ?_) h
    cases x with
    | normal => exact hq _ _ _ k
    | exit n =>
      simp only [blockQ] at k ⊢
      split at k
      · rename_i hn; rw [if_pos hn]; exact hq _ _ _ k
      · rename_i hn; rw [if_neg hn]; exact hq _ _ _ k
    | ret => exact hq _ _ _ k
  | loop c ih =>
    intro Q Q' e H hq h
    simp only [acode] at h ⊢
    obtain ⟨I, n, h0, hs⟩ := h
    refine ⟨I, n, h0, fun n e H hI => ih (fun x e H k => ?_) (hs n e H hI)⟩
    cases x with
    | normal => exact k
    | exit n => exact hq _ _ _ k
    | ret => exact hq _ _ _ k
  | exit id => intro Q Q' e H hq h; exact hq _ _ _ h
  | ret => intro Q Q' e H hq h; exact hq _ _ _ h
  | _ => intro Q Q' e H hq h; exact h
/-- A loop: its state s; the frame and the memory that go with it; what falls. -/
theorem acode_while {N0 : Nat} {c : Code} {Q : AX → Env → AH → Prop} {e : Env} {H : AH} {σ : Type} (F : σ → List (Nat × AV)) (I : σ → AH → Prop) (μ : σ → Nat) (s0 : σ) (hI : I s0 H)
    (hs : ∀ s H', I s H' → acode P W0 N0 c (loopQ (fun e' H'' => ∃ s', μ s' < μ s ∧ frOk e' (F s') ∧ I s' H'') Q) (fr (F s)) H') (h0 : frOk e (F s0) := by first | (simp only [frOk, go_sem]; done) | (simp only [frOk, go_sem]; simp; done)) : acode P W0 N0 (.loop c) Q e H := by
  have hl : ∀ (Q : AX → Env → AH → Prop) (I I' : Env → AH → Prop), (∀ e H, I e H → I' e H) → ∀ x e H, loopQ I Q x e H → loopQ I' Q x e H := by
    intro Q I I' h x e H
    cases x <;> exact fun k => by first | exact h _ _ k | exact k
  refine ⟨fun n e H => ∃ s, n = μ s ∧ e = fr (F s) ∧ I s H, μ s0 + 1, ⟨μ s0, fr (F s0), H, Nat.lt_succ_self _, ⟨.inl rfl, fun t => (fr_of h0 t).imp id fun h => ⟨h, .inl rfl⟩⟩, s0, rfl, rfl, hI⟩, ?_⟩
  rintro n e H ⟨s, rfl, rfl, hI⟩
  refine acode_mono (hl _ _ _ ?_) (hs s H hI)
  rintro e' H'' ⟨s', h1, h2, h3⟩
  exact ⟨μ s', fr (F s'), H'', h1, ⟨.inl rfl, fun t => (fr_of h2 t).imp id fun h => ⟨h, .inl rfl⟩⟩, s', rfl, rfl, h3⟩
theorem aix_strn {K : Kt} {H : AH} {t : TypeId} {s : ByteArray} {k : IntKind} {j : Nat} (hk : 0 ≤ bt s j → bt s j ≤ 255 → K.k (.v (.int .u8 (bt s j))) H) (h1 : j < s.size := by omega) (ht : isStr P t = true := by simp only [go_sem]) :
    aix (K := K) P t (.v (.string s)) (.v (.int k (j : Int))) H := by
  refine ⟨ht, by omega, s[j]'h1, by simp, ?_⟩
  have h2 := bt_le s j
  have h3 := hk h2.1 h2.2
  unfold bt at h3
  rwa [show s[j]? = some (s[j]'h1) by simp [h1]] at h3
theorem aix_str {K : Kt} {H : AH} {t : TypeId} {s : ByteArray} {k : IntKind} {j : Int} (hk : 0 ≤ bt s j.toNat → bt s j.toNat ≤ 255 → K.k (.v (.int .u8 (bt s j.toNat))) H) (h0 : 0 ≤ j := by omega) (h1 : j < s.size := by omega) (ht : isStr P t = true := by simp only [go_sem]) :
    aix (K := K) P t (.v (.string s)) (.v (.int k j)) H := by
  refine ⟨ht, h0, s[j.toNat]'(by omega), by simp, ?_⟩
  have h2 := bt_le s j.toNat
  have h3 := hk h2.1 h2.2
  unfold bt at h3
  rwa [show s[j.toNat]? = some (s[j.toNat]'(by omega)) by simp] at h3
/-! ### Memory that has grown -/
theorem aK_sub {K : Kl} {H H' : AH} (hs : Sub H H') {b : Nat} {f : Blk → Option (List AV)} (h : aK (K := K) ((H.blk b).bind f)) : aK (K := K) ((H'.blk b).bind f) := by
  cases hB : H.blk b with
  | none => rw [hB] at h; exact h.elim
  | some B => rw [hs.2 _ _ hB]; rwa [hB] at h
/-! ### Elements -/
/-- A place within an element. -/
def ixF (s : Nat) : AV → Nat → Nat → AV
  | .sl b o n, j, f => .ptr b (o + j * s + f)
  | .slc b o n _, j, f => .ptr b (o + j * s + f)
  | .v (.slice (some a) n _), j, f => .v (.pointer (some (a.add (j * s + f))))
  | _, _, _ => .dead
section
variable {α : Type} [Ob α]
theorem aixs_sl {K : Kt} {H H' : AH} {v : AV} {xs : List α} {g : Bool} {s b : Nat} {z : List Value} {k : IntKind} {j : Int} (h : SlR W0 H v xs) (hk : K.k (ixF s v j.toNat 0) H')
    (hs : Sub H H' := by repeat (first | exact Sub.refl _ | assumption | refine Sub.new (by assumption) ?_ _ _ | refine Sub.kill_new (by assumption) ?_ _ _ | refine Sub.trans ?_ (by assumption))) (hz : s = Ob.n α := by rfl) (h0 : 0 ≤ j := by omega) (h1 : j < xs.length := by omega) : aixs (K := K) (some ⟨g, s, b, z⟩) v (.v (.int k j)) H' := by
  refine aixs_SlR (h.sub hs) hz h0 h1 ?_
  have : ixA s v j.toNat = ixF s v j.toNat 0 := by
    cases v with
    | v x =>
      cases x with
      | slice a n c => cases a <;> rfl
      | _ => rfl
    | _ => rfl
  rw [this]; exact hk
theorem aixs_sln {K : Kt} {H H' : AH} {v : AV} {xs : List α} {g : Bool} {s b : Nat} {z : List Value} {k : IntKind} {j : Nat} (h : SlR W0 H v xs) (hk : K.k (ixF s v j 0) H')
    (hs : Sub H H' := by repeat (first | exact Sub.refl _ | assumption | refine Sub.new (by assumption) ?_ _ _ | refine Sub.kill_new (by assumption) ?_ _ _ | refine Sub.trans ?_ (by assumption))) (hz : s = Ob.n α := by rfl) (h1 : j < xs.length := by omega) : aixs (K := K) (some ⟨g, s, b, z⟩) v (.v (.int k (j : Int))) H' :=
  aixs_sl h hk hs hz (by omega) (by omega)
theorem SlR.shape {H : AH} {v : AV} {xs : List α} (h : SlR W0 H v xs) (hn : 0 < xs.length) : (∃ b o n, v = .sl b o n) ∨ ∃ a n c, v = .v (.slice (some a) n c) := by
  obtain ⟨e1, e2, cs, e3, e4⟩ := h
  unfold slCells at e3
  unfold slN at e1
  split at e1
  · exact .inl ⟨_, _, _, rfl⟩
  · rename_i a n c
    cases a with
    | some a => exact .inr ⟨_, _, _, rfl⟩
    | none =>
      simp only at e3
      split at e3
      · omega
      · cases e3
  · cases e1
theorem afa_sl {K : Kt} {H H' : AH} {v : AV} {xs : List α} {g : Bool} {n b : Nat} {z : List Value} {s j f off : Nat} (h : SlR W0 H v xs) (hk : K.k (ixF s v j (f + off)) H') (hj : j < xs.length := by omega) (hn : n ≠ 0 := by decide) :
    afa2 (K := K) (some ⟨g, n, b, z⟩) off (ixF s v j f) H' := by
  rcases h.shape (by omega) with ⟨b, o, m, rfl⟩ | ⟨a, m, c, rfl⟩
  · exact ⟨hn, by simpa only [ixF, Nat.add_assoc] using hk⟩
  · refine ⟨hn, ?_⟩
    simp only [ixF] at hk ⊢
    rw [Addr.add_add, Nat.add_assoc]; exact hk
theorem SlR.rdF {s : Nat} {H : AH} {v : AV} {xs : List α} (h : SlR W0 H v xs) (hz : s = Ob.n α) {j f n : Nat} (hj : j < xs.length) (ho : f + n ≤ Ob.n α) : ∃ cs, rdCells W0 H n (ixF s v j f) = some ((cs.drop f).take n) ∧ Ob.rep W0 H cs xs[j] := by
  subst hz
  obtain ⟨cs, h1, h2⟩ := h.rd j hj
  refine ⟨cs, ?_, h2⟩
  have hl := Ob.len h2
  rcases h.shape (by omega) with ⟨b, o, m, rfl⟩ | ⟨a, m, c, rfl⟩
  · simp only [ixA, rdCells] at h1
    simp only [ixF, rdCells]
    cases hB : H.blk b with
    | none => rw [hB] at h1; cases h1
    | some B =>
      rw [hB] at h1
      simp only [Option.bind_some] at h1 ⊢
      split at h1
      · rename_i hle
        simp only [Option.some.injEq] at h1
        rw [if_pos (by omega), ← h1, List.drop_take, List.take_take, List.drop_drop]
        congr 2
        omega
      · cases h1
  · simp only [ixA, rdCells] at h1
    simp only [ixF, rdCells]
    simp only [Option.map_eq_some_iff] at h1 ⊢
    obtain ⟨l, hl1, rfl⟩ := h1
    refine ⟨(l.drop f).take n, ?_, by rw [List.map_take, List.map_drop]⟩
    simp only [List.length_map] at hl
    rw [rdOld_iff] at hl1 ⊢
    refine ⟨by simp; omega, fun i hi => ?_⟩
    have h2 := hl1.2 (f + i) (by omega)
    rw [List.getElem?_take, if_pos hi, List.getElem?_drop, ← h2, Addr.add_add, Addr.add_add, Nat.add_assoc]
theorem aK_sl {K : Kl} {H H' : AH} {v : AV} {xs : List α} {s j f n : Nat} (h : SlR W0 H v xs) (hj : j < xs.length) (hk : ∀ cs, Ob.rep W0 H cs xs[j] → K.k ((cs.drop f).take n))
    (hs : Sub H H' := by repeat (first | exact Sub.refl _ | assumption | refine Sub.new (by assumption) ?_ _ _ | refine Sub.kill_new (by assumption) ?_ _ _ | refine Sub.trans ?_ (by assumption))) (hz : s = Ob.n α := by rfl) (ho : f + n ≤ Ob.n α := by decide) : aK (K := K) (rdCells W0 H' n (ixF s v j f)) := by
  obtain ⟨cs, h1, h2⟩ := h.rdF hz hj ho
  have h3 : rdCells W0 H' n (ixF s v j f) = some ((cs.drop f).take n) := by
    rw [← h1]
    rcases h.shape (by omega) with ⟨b, o, m, rfl⟩ | ⟨a, m, c, rfl⟩
    · simp only [ixF, rdCells] at h1 ⊢
      cases hB : H.blk b with
      | none => rw [hB] at h1; cases h1
      | some B => rw [hs.2 _ _ hB]
    · rfl
  exact aK_to _ h3 (hk cs h2)
theorem aK_slw {K : Kl} {H H' : AH} {v : AV} {xs : List α} {s j n : Nat} (h : SlR W0 H v xs) (hj : j < xs.length) (hk : ∀ cs, Ob.rep W0 H cs xs[j] → K.k cs)
    (hs : Sub H H' := by repeat (first | exact Sub.refl _ | assumption | refine Sub.new (by assumption) ?_ _ _ | refine Sub.kill_new (by assumption) ?_ _ _ | refine Sub.trans ?_ (by assumption))) (hz : s = Ob.n α := by rfl) (ho : n = Ob.n α := by rfl) : aK (K := K) (rdCells W0 H' n (ixF s v j 0)) := by
  refine aK_sl h hj (fun cs hc => ?_) hs hz (by omega)
  have := Ob.len hc
  rw [List.drop_zero, List.take_of_length_le (by omega)]
  exact hk cs hc
theorem abi_len_sl' {K : Kt} {t : TypeId} {H H' : AH} {v : AV} {xs : List α} (h : SlR W0 H v xs) (hk : K.k (.v (.int .i64 xs.length)) H') (ht : (elt P t).isSome = true := by simp only [go_sem]) : abi (K := K) P W0 .len [t] [v] H' :=
  abi_len h.slLen ht hk
end
end
section
/-! The calculus 'Aw' at work, part 8: '==' of structs whose fields are plain. -/
open Go Go.RowKit
set_option linter.unusedVariables false
def eqFs (P : Program) (xs ys : List Value) : List Field → Option Bool
  | [] => some true
  | f :: fs => if f.name = "_" then none else
    match P.underlying f.type, xs[f.offset]?, ys[f.offset]? with
    | some (.int _), some (.int k a), some (.int k' b) => if k = k' then (eqFs P xs ys fs).map fun r => (a == b) && r else none
    | some .bool, some (.bool a), some (.bool b) => (eqFs P xs ys fs).map fun r => (a == b) && r
    | some .string, some (.string a), some (.string b) => (eqFs P xs ys fs).map fun r => (a.toList == b.toList) && r
    | _, _, _ => none
theorem eqFs_run {P : Program} {xs ys : List Value} (d : Nat) (W : World) : ∀ (fs : List Field) (r : Bool), eqFs P xs ys fs = some r → (Op.eqFields (d + 1) xs.toArray ys.toArray fs).run P W = .ok r W
  | [], r, h => by simp only [eqFs, Option.some.injEq] at h; subst h; rfl
  | f :: fs, r, h => by
    simp only [eqFs] at h
    split at h
    · cases h
    rename_i hn
    rw [Op.eqFields, if_pos hn]
    have go : ∀ (a b : Value) (q : Bool), P.plainKey f.type = true → xs[f.offset]? = some a → ys[f.offset]? = some b → (Op.equalIn (d + 1) f.type a b).run P W = .ok q W → (eqFs P xs ys fs).map (fun r => q && r) = some r →
        (do let a ← part f.type xs.toArray f.offset; let b ← part f.type ys.toArray f.offset; let r ← Op.equalIn (d + 1) f.type a b; if (!r) = true then pure false else Op.eqFields (d + 1) xs.toArray ys.toArray fs : Sem Bool).run P W = .ok r W := by
      intro a b q hp ha hb hq hr
      obtain ⟨s, hs, rfl⟩ := Option.map_eq_some_iff.1 hr
      have ih := eqFs_run d W fs s hs
      simp only [Sem.run_bind, run_part_plain W hp (show xs.toArray[f.offset]? = some a by simpa using ha), run_part_plain W hp (show ys.toArray[f.offset]? = some b by simpa using hb), Result.andThen_ok, hq]
      cases q
      · simp
      · simpa using ih
    split at h
    · rename_i k0 k a k' b hu ha hb
      split at h
      · rename_i hk
        subst hk
        exact go _ _ _ (by simp [Program.plainKey, hu]) ha hb (run_equalIn_int W d _ _ _ _ _ hu) h
      · cases h
    · rename_i a b hu ha hb
      exact go _ _ _ (by simp [Program.plainKey, hu]) ha hb (run_equalIn_bool' W d _ _ _ hu) h
    · rename_i a b hu ha hb
      exact go _ _ _ (by simp [Program.plainKey, hu]) ha hb (run_equalIn_string W d _ _ _ hu) h
    · cases h
def fieldsL (P : Program) (t : TypeId) : List Field := match P.underlying t with | some (.struct fs) => fs.toList | _ => []
def eqTyOk (P : Program) (t : TypeId) : Bool := (match P.underlying t with | some (.struct _) => true | _ => false) && !P.stoodInHeld t && !P.eqGuardType P.depth t
theorem eqAt_of {P : Program} {t : TypeId} {xs ys : List Value} {r : Bool} (ht : eqTyOk P t = true) (h : eqFs P xs ys (fieldsL P t) = some r) : EqAt P t xs ys r := by
  simp only [eqTyOk, Bool.and_eq_true, Bool.not_eq_true'] at ht
  obtain ⟨⟨h1, h2⟩, h3⟩ := ht
  have hf : P.underlying t = some (.struct (P.fieldsOf t)) := by
    unfold Program.fieldsOf
    split at h1
    · rename_i fs hu; rw [hu]
    · cases h1
  have hl : fieldsL P t = (P.fieldsOf t).toList := by
    unfold fieldsL Program.fieldsOf
    split at h1
    · rename_i fs hu; rw [hu]
    · cases h1
  refine ⟨fun W => ?_, fun W => ?_⟩
  · simp [eqGuard, h3]
  · unfold Op.equal Op.maxDepth
    rw [run_equalIn_struct W 9999 t _ _ hf h2, ← hl]
    exact eqFs_run 9998 W _ _ h
theorem agg_eq {K : Kt} {P : Program} {t : TypeId} {H : AH} {xs ys : List Value} {r : Bool} {l l' : List AV} (h : EqAt P t xs ys r) (hk : K.k (.v (.bool r)) H) (h1 : l = xs.map .v := by rfl) (h2 : l' = ys.map .v := by rfl) : abinop (K := K) P .eql t (.agg l) (.agg l') H := ⟨xs, ys, r, h1, h2, h, hk⟩
theorem agg_ne {K : Kt} {P : Program} {t : TypeId} {H : AH} {xs ys : List Value} {r : Bool} {l l' : List AV} (h : EqAt P t xs ys r) (hk : K.k (.v (.bool !r)) H) (h1 : l = xs.map .v := by rfl) (h2 : l' = ys.map .v := by rfl) : abinop (K := K) P .neq t (.agg l) (.agg l') H := ⟨xs, ys, r, h1, h2, h, hk⟩
end
end Go.Proofs.YtipfnhfcoolhaaaGreat.Aw
