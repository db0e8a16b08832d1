/- The calculus 'Aw' at work, part 1: the equations by which a function's code is stepped through. -/
import Derived.Test.YthcjolappblieaaAw8
import Derived.KernelRfl
namespace Go.Proofs.Ythcjolappblieaa.Aw
open Go Go.RowKit
set_option linter.unusedVariables false
set_option linter.unusedSimpArgs false
set_option linter.unusedSectionVars false
variable {P : Program} {W0 : World}

/-! ### Choices -/
class K2 where (a : Prop) (b : Prop)
class K3 where (a : Prop) (b : Prop) (c : Prop)
class Kn where k : Nat → Prop
theorem K2.a_mk (A B : Prop) : (K2.mk A B).a = A := rfl
theorem K2.b_mk (A B : Prop) : (K2.mk A B).b = B := rfl
theorem K3.a_mk (A B C : Prop) : (K3.mk A B C).a = A := rfl
theorem K3.b_mk (A B C : Prop) : (K3.mk A B C).b = B := rfl
theorem K3.c_mk (A B C : Prop) : (K3.mk A B C).c = C := rfl
theorem Kn.k_mk (K : Nat → Prop) : (Kn.mk K).k = K := rfl
def acond (v : AV) [K : K2] : Prop := match v with | .v (.bool t) => if t = true then K.a else K.b | _ => False
section
variable {K : K2}
theorem acond_true : acond (.v (.bool true)) = K.a := by simp [acond]
theorem acond_false : acond (.v (.bool false)) = K.b := by simp [acond]
omit K in
theorem acond_split {t : Bool} {K : K2} (ha : t = true → K.a) (hb : t = false → K.b) : acond (K := K) (.v (.bool t)) := by
  cases t
  · simpa [acond] using hb rfl
  · simpa [acond] using ha rfl
end
def agrd (v : AV) (want : Bool) [K : K3] : Prop := match v with | .v (.bool b) => if b = want then K.a else K.b | .v (.tuple _) => K.c | _ => False
section
variable {K : K3}
theorem agrd_tt : agrd (.v (.bool true)) true = K.a := by simp [agrd]
theorem agrd_ff : agrd (.v (.bool false)) false = K.a := by simp [agrd]
theorem agrd_tf : agrd (.v (.bool true)) false = K.b := by simp [agrd]
theorem agrd_ft : agrd (.v (.bool false)) true = K.b := by simp [agrd]
theorem agrd_undef (w : Bool) : agrd (.v undef) w = K.c := rfl
omit K in
theorem agrd_split {t w : Bool} {K : K3} (ha : t = w → K.a) (hb : t = (!w) → K.b) : agrd (K := K) (.v (.bool t)) w := by
  cases t <;> cases w <;> simp_all [agrd]
end

/-! ### The frame -/
theorem putA_some (t : Nat) (v : AV) (e : Env) : putA (some t) v e = upd e t v := rfl
theorem putA_none (v : AV) (e : Env) : putA none v e = e := rfl
theorem upd_at (e : Env) (t : Nat) (v : AV) (u : Nat) : upd e t v u = if u = t then v else e u := rfl
theorem ev_tmp (e : Env) (t : Nat) : ev e (.tmp t) = e t := rfl
theorem ev_const (e : Env) (v : Value) : ev e (.const v) = .v v := rfl
theorem ev_func (e : Env) (f : FuncId) : ev e (.func f) = .fn f [] := rfl
/-- A frame out of a row: the slots that are still asked for. -/
def fr : List (Nat × AV) → Env
  | [] => fun _ => .dead
  | (t, v) :: l => upd (fr l) t v
theorem ne_add (n k : Nat) : (n = n + (k + 1)) = False := by simp
theorem add_ne (n k : Nat) : (n + (k + 1) = n) = False := by simp
theorem fr_cons (t : Nat) (v : AV) (l : List (Nat × AV)) (u : Nat) : fr ((t, v) :: l) u = if u = t then v else fr l u := rfl

theorem env0_nil (t : Nat) : env0 [] t = .v undef := by simp [env0]
theorem env0_zero (v : AV) (l : List AV) : env0 (v :: l) 0 = v := by simp [env0]
theorem env0_succ (v : AV) (l : List AV) (t : Nat) : env0 (v :: l) (t + 1) = env0 l t := by simp [env0]
/-! ### Code -/
theorem gtmp_zero (d : Option Nat) (op : Op) (ty : TypeId) (pos : String) (af : Array Edge) (g : Option (Nat × Bool)) (os : List Oper) : gtmp (List.toArray (⟨d, op, ty, pos, af, g⟩ :: os)) 0 = d := by simp [gtmp]
theorem gtmp_succ (o : Oper) (os : List Oper) (j : Nat) : gtmp (List.toArray (o :: os)) (j + 1) = gtmp (List.toArray os) j := by simp [gtmp]
def agt (t : Option Nat) [K : Kn] : Prop := match t with | some t => K.k t | none => False
theorem agt_some {K : Kn} (t : Nat) : agt (some t) = K.k t := rfl
theorem aops_nil (all : Array Oper) (Q : Env → AH → Prop) (e : Env) (H : AH) : aops P W0 all [] Q e H = Q e H := rfl
theorem aops_cons (all : Array Oper) (dst : Option Nat) (op : Op) (ty : TypeId) (pos : String) (after : Array Edge) (os : List Oper) (Q : Env → AH → Prop) (e : Env) (H : AH) :
    aops P W0 all (⟨dst, op, ty, pos, after, none⟩ :: os) Q e H = aop P W0 op e H fun v H' => aops P W0 all os Q (putA dst v e) H' := rfl
theorem aops_guard (all : Array Oper) (dst : Option Nat) (op : Op) (ty : TypeId) (pos : String) (after : Array Edge) (j : Nat) (want : Bool) (os : List Oper) (Q : Env → AH → Prop) (e : Env) (H : AH) :
    aops P W0 all (⟨dst, op, ty, pos, after, some (j, want)⟩ :: os) Q e H = agt (gtmp all j) (K := ⟨fun t =>
      agrd (e t) want (K := ⟨aop P W0 op (upd e t (.v (.bool want))) H fun v H' => aops P W0 all os Q (putA dst v (upd e t (.v (.bool want)))) H',
        aops P W0 all os Q (putA dst (.v undef) (upd e t (.v (.bool !want)))) H, aops P W0 all os Q (putA dst (.v undef) e) H⟩)⟩) := rfl
variable {N0 : Nat} {Q : AX → Env → AH → Prop} {e : Env} {H : AH}
theorem acode_skip : acode P W0 N0 .skip Q e H = Q .normal e H := rfl
theorem acode_region (id : Nat) (ops : Array Oper) : acode P W0 N0 (.region id ops false) Q e H = aops P W0 ops ops.toList (Q .normal) e H := by simp [acode]
theorem acode_draw (id : Nat) (ops : Array Oper) : acode P W0 N0 (.region id ops true) Q e H = adraw P W0 ops (Q .normal) e H := by simp [acode]
theorem acode_seq (a b : Code) : acode P W0 N0 (.seq a b) Q e H = acode P W0 N0 a (loopQ (acode P W0 N0 b Q) Q) e H := rfl
theorem acode_cond (c : Operand) (a b : Code) : acode P W0 N0 (.cond c a b) Q e H = acond (ev e c) (K := ⟨acode P W0 N0 a Q e H, acode P W0 N0 b Q e H⟩) := rfl
theorem acode_block (id : Nat) (c : Code) : acode P W0 N0 (.block id c) Q e H = acode P W0 N0 c (blockQ id Q) e H := rfl
theorem acode_exit (id : Nat) : acode P W0 N0 (.exit id) Q e H = Q (.exit id) e H := rfl
theorem acode_ret : acode P W0 N0 .ret Q e H = Q .ret e H := rfl
theorem loopQ_normal (I : Env → AH → Prop) : loopQ I Q .normal e H = I e H := rfl
theorem loopQ_exit (I : Env → AH → Prop) (n : Nat) : loopQ I Q (.exit n) e H = Q (.exit n) e H := rfl
theorem loopQ_ret (I : Env → AH → Prop) : loopQ I Q .ret e H = Q .ret e H := rfl
theorem blockQ_exit (id j : Nat) : blockQ id Q (.exit j) e H = if j = id then Q .normal e H else Q (.exit j) e H := rfl
theorem blockQ_normal (id : Nat) : blockQ id Q .normal e H = Q .normal e H := rfl
theorem blockQ_ret (id : Nat) : blockQ id Q .ret e H = Q .ret e H := rfl

/-! ### What a function hands back -/
def retK (N0 : Nat) (H : AH) (R : AV → AH → Prop) : Option (List AV) → Prop
  | some [v] => ∃ H1, FgtH N0 H H1 ∧ FgtV H H1 v ∧ R v H1
  | some l => ∃ H1, FgtH N0 H H1 ∧ FgtV H H1 (.tup l) ∧ R (.tup l) H1
  | none => False
theorem retA_ret (rs : List ResultVar) (R : AV → AH → Prop) : retA P W0 N0 rs R .ret e H = retK N0 H R (resAll P W0 rs e H) := rfl
theorem retA_normal (rs : List ResultVar) (R : AV → AH → Prop) : retA P W0 N0 rs R .normal e H = retK N0 H R (resAll P W0 rs e H) := rfl
theorem resAll_nil : resAll P W0 [] e H = some [] := rfl
theorem resAll_tmp (t : Nat) (rs : List ResultVar) : resAll P W0 (.tmp t :: rs) e H = (resAll P W0 rs e H).map (e t :: ·) := by
  simp [resAll, resOne]
  cases List.mapM (resOne P W0 e H) rs <;> rfl
def resCell (W0 : World) (i : Option TyI) (a : AV) (H : AH) : Option AV := match i with
  | some i => if i.agg = true ∨ i.size = 1 then (rdCells W0 H i.size a).map (mkv i.agg) else none
  | none => none
theorem resCell_agg (n b : Nat) (z : List Value) (a : AV) : resCell W0 (some ⟨true, n, b, z⟩) a H = (rdCells W0 H n a).map .agg := by simp [resCell]; congr
theorem resCell_one (b : Nat) (z : List Value) (a : AV) : resCell W0 (some ⟨false, 1, b, z⟩) a H = (rdCells W0 H 1 a).map (·.headD .dead) := by simp only [resCell, or_true, if_true]; rfl
theorem resAll_cell (a : Nat) (t : TypeId) (rs : List ResultVar) : resAll P W0 (.cell a t :: rs) e H = (resCell W0 (tyi P t) (e a) H).bind fun v => (resAll P W0 rs e H).map (v :: ·) := by
  have : resOne P W0 e H (.cell a t) = resCell W0 (tyi P t) (e a) H := by
    simp only [resOne, resCell]
    cases tyi P t <;> rfl
  simp only [resAll, List.mapM_cons, this]
  cases resCell W0 (tyi P t) (e a) H with
  | none => rfl
  | some v => cases List.mapM (resOne P W0 e H) rs <;> rfl
theorem FgtH.refl (N0 : Nat) (H : AH) : FgtH N0 H H := .inl rfl
theorem FgtV.refl (H : AH) (v : AV) : FgtV H H v := .inl rfl
theorem retK_one {R : AV → AH → Prop} {v : AV} (h : R v H) : retK N0 H R (some [v]) := ⟨H, .inl rfl, .inl rfl, h⟩
theorem retK_nil {R : AV → AH → Prop} (h : R (.tup []) H) : retK N0 H R (some []) := ⟨H, .inl rfl, .inl rfl, h⟩
theorem retK_two {R : AV → AH → Prop} {v w : AV} {l : List AV} (h : R (.tup (v :: w :: l)) H) : retK N0 H R (some (v :: w :: l)) := ⟨H, .inl rfl, .inl rfl, h⟩
end Go.Proofs.Ythcjolappblieaa.Aw
