/- The calculus 'Aw' at work, part 2: each operation's equations. -/
import Derived.Test.YthcjolappblieaaAx1
namespace Go.Proofs.Ythcjolappblieaa.Aw
open Go Go.RowKit
set_option linter.unusedVariables false
set_option linter.unusedSimpArgs false
set_option linter.unusedSectionVars false
class Kt where k : AV → AH → Prop
class Kl where k : List AV → Prop
theorem Kt.k_mk (K : AV → AH → Prop) : (Kt.mk K).k = K := rfl
theorem Kl.k_mk (K : List AV → Prop) : (Kl.mk K).k = K := rfl
variable {P : Program} {W0 : World} {e : Env} {H : AH} {κ : AV → AH → Prop} {K : Kt}
omit K in
theorem blk_new_self (H : AH) (cs : List AV) (s : Nat) : (H.new cs s).blk H.nxt = some ⟨cs, s⟩ := by simp [AH.new]
omit K in
theorem blk_new (H : AH) (cs : List AV) (s b : Nat) : (H.new cs s).blk b = if b = H.nxt then some ⟨cs, s⟩ else H.blk b := rfl
omit K in
theorem blk_set (H : AH) (B : Blk) (b b' : Nat) : (H.set b B).blk b' = if b' = b then some B else H.blk b' := rfl
omit K in
theorem blk_kill (H : AH) (b b' : Nat) : (H.kill b).blk b' = if b' = b then none else H.blk b' := rfl
omit K in
theorem nxt_new (H : AH) (cs : List AV) (s : Nat) : (H.new cs s).nxt = H.nxt + 1 := rfl
omit K in
theorem nxt_set (H : AH) (B : Blk) (b : Nat) : (H.set b B).nxt = H.nxt := rfl
omit K in
theorem nxt_kill (H : AH) (b : Nat) : (H.kill b).nxt = H.nxt := rfl
omit K in
theorem mkv_true (cs : List AV) : mkv true cs = .agg cs := rfl
omit K in
theorem mkv_one (x : AV) : mkv false [x] = x := rfl
omit K in
theorem cellsA_agg (l : List AV) : cellsA (.agg l) = some l := rfl
omit K in
theorem cellsA_ptr (b o : Nat) : cellsA (.ptr b o) = some [.ptr b o] := rfl
omit K in
theorem cellsA_sl (b o n : Nat) : cellsA (.sl b o n) = some [.sl b o n] := rfl
omit K in
theorem cellsA_fn (f : FuncId) (c : List AV) : cellsA (.fn f c) = some [.fn f c] := rfl
omit K in
theorem cellsA_leaf {x : Value} (h : leafV x = true) : cellsA (.v x) = some [.v x] := by cases x <;> first | rfl | (simp [leafV] at h)
omit K in
theorem cellsA_int (k : IntKind) (n : Int) : cellsA (.v (.int k n)) = some [.v (.int k n)] := rfl
omit K in
theorem cellsA_bool (b : Bool) : cellsA (.v (.bool b)) = some [.v (.bool b)] := rfl
omit K in
theorem cellsA_string (s) : cellsA (.v (.string s)) = some [.v (.string s)] := rfl
omit K in
theorem cellsA_slice (a : Option Addr) (n c : Nat) : cellsA (.v (.slice a n c)) = some [.v (.slice a n c)] := rfl
omit K in
theorem cellsA_pointer (a : Option Addr) : cellsA (.v (.pointer a)) = some [.v (.pointer a)] := rfl
omit K in
theorem rdCells_ptr (n b o : Nat) : rdCells W0 H n (.ptr b o) = (H.blk b).bind fun B => if o + n ≤ B.cells.length then some ((B.cells.drop o).take n) else none := rfl
omit K in
theorem slLen_sl (b o n : Nat) : slLen (.sl b o n) = some n := rfl
theorem cellsA_slc (b o n c : Nat) : cellsA (.slc b o n c) = some [.slc b o n c] := rfl
theorem cellsA_sl0 : cellsA .sl0 = some [.sl0] := rfl
omit K in
theorem slLen_v (a : Option Addr) (n c : Nat) : slLen (.v (.slice a n c)) = some n := rfl

/-! ### Operations -/
omit K in
theorem aop_move (x : Operand) : aop P W0 (.move x) e H κ = κ (ev e x) H := rfl
omit K in
theorem aop_assign (x : Operand) : aop P W0 (.assign x) e H κ = κ (ev e x) H := rfl
def apick (c a b : AV) (H : AH) [K : Kt] : Prop := match c with | .v (.bool t) => K.k (if t = true then a else b) H | _ => False
omit K in
theorem aop_pick (c a b : Operand) : aop P W0 (.pick c a b) e H κ = apick (K := ⟨κ⟩) (ev e c) (ev e a) (ev e b) H := rfl
theorem apick_true (a b : AV) : apick (.v (.bool true)) a b H = K.k a H := rfl
theorem apick_false (a b : AV) : apick (.v (.bool false)) a b H = K.k b H := rfl
theorem apick_bool (t : Bool) (a b : AV) : apick (.v (.bool t)) a b H = K.k (if t = true then a else b) H := rfl
def aalloc (i : Option TyI) (H : AH) [K : Kt] : Prop := match i with | some i => K.k (.ptr H.nxt 0) (H.new (i.zero.map .v) i.zero.length) | none => False
omit K in
theorem aop_alloc (t : TypeId) : aop P W0 (.alloc t) e H κ = aalloc (K := ⟨κ⟩) (tyi P t) H := rfl
theorem aalloc_some (g : Bool) (n b : Nat) (z : List Value) : aalloc (some ⟨g, n, b, z⟩) H = K.k (.ptr H.nxt 0) (H.new (z.map .v) z.length) := rfl
def abox (cs : Option (List AV)) (H : AH) [K : Kt] : Prop := match cs with | some cs => K.k (.ptr H.nxt 0) (H.new cs cs.length) | none => False
omit K in
theorem aop_box (t : TypeId) (x : Operand) : aop P W0 (.box t x) e H κ = abox (K := ⟨κ⟩) (cellsA (ev e x)) H := rfl
theorem abox_some (cs : List AV) : abox (some cs) H = K.k (.ptr H.nxt 0) (H.new cs cs.length) := rfl
def aK (cs : Option (List AV)) [K : Kl] : Prop := match cs with | some cs => K.k cs | none => False
theorem aK_some {K : Kl} (cs : List AV) : aK (some cs) = K.k cs := rfl
def abuildA (i j : Option TyI) (parts : List (Nat × AV)) [K : Kl] : Prop := match i, j with
  | some i, some j => aK (fillS j.size (i.zero.map .v) parts)
  | _, _ => False
def abuild (P : Program) (t : TypeId) (i : Option TyI) (pl : Option (List (Nat × Nat))) (parts : List (Nat × AV)) [K : Kl] : Prop := match i, pl with
  | some i, some pl => aK (fillA pl (i.zero.map .v) parts)
  | some i, none => abuildA (some i) ((arrt P t).bind fun p => tyi P p.2) parts
  | none, _ => False
theorem abuildA_some {K : Kl} (g g' : Bool) (n b n' b' : Nat) (z z' : List Value) (parts : List (Nat × AV)) : abuildA (some ⟨g, n, b, z⟩) (some ⟨g', n', b', z'⟩) parts = aK (fillS n' (z.map .v) parts) := rfl
theorem abuild_none {K : Kl} (t : TypeId) (i : TyI) (parts : List (Nat × AV)) : abuild P t (some i) none parts = abuildA (some i) ((arrt P t).bind fun p => tyi P p.2) parts := rfl
omit K in
theorem aop_build (t : TypeId) (parts) : aop P W0 (.build t parts) e H κ = abuild (K := ⟨fun cs => κ (.agg cs) H⟩) P t (tyi P t) (places P t) (parts.toList.map fun p => (p.1, ev e p.2)) := by
  simp only [aop, abuild]
  cases tyi P t with
  | none => rfl
  | some i =>
    cases places P t with
    | some pl => rfl
    | none => simp only; cases (arrt P t).bind fun p => tyi P p.2 <;> rfl
theorem abuild_some {K : Kl} (t : TypeId) (g : Bool) (n b : Nat) (z : List Value) (pl : List (Nat × Nat)) (parts : List (Nat × AV)) : abuild P t (some ⟨g, n, b, z⟩) (some pl) parts = aK (fillA pl (z.map .v) parts) := rfl
def abuildS (i : Option TyI) (len : Nat) (parts : List (Nat × AV)) (H : AH) [K : Kt] : Prop := match i with
  | some i => len * i.size ≤ 16777216 ∧ i.zero.length = i.size ∧ aK (K := ⟨fun cs => K.k (.sl H.nxt 0 len) (H.new cs i.size)⟩) (fillS i.size (zerosA i.zero len) parts)
  | none => False
omit K in
theorem aop_buildSlice (t : TypeId) (len : Nat) (parts) : aop P W0 (.buildSlice t len parts) e H κ = abuildS (K := ⟨κ⟩) ((elt P t).bind (tyi P)) len (parts.toList.map fun p => (p.1, ev e p.2)) H := rfl
theorem abuildS_some (g : Bool) (n b : Nat) (z : List Value) (len : Nat) (parts : List (Nat × AV)) : abuildS (some ⟨g, n, b, z⟩) len parts H = (len * n ≤ 16777216 ∧ z.length = n ∧ aK (K := ⟨fun cs => K.k (.sl H.nxt 0 len) (H.new cs n)⟩) (fillS n (zerosA z len) parts)) := rfl
def aload (W0 : World) (i : Option TyI) (a : AV) (H : AH) [K : Kt] : Prop := match i with
  | some i => (i.agg = true ∨ i.size = 1) ∧ aK (K := ⟨fun cs => K.k (mkv i.agg cs) H⟩) (rdCells W0 H i.size a)
  | none => False
omit K in
theorem aop_load (t : TypeId) (a : Operand) : aop P W0 (.load t a) e H κ = aload (K := ⟨κ⟩) W0 (tyi P t) (ev e a) H := rfl
theorem aload_agg (n b : Nat) (z : List Value) (a : AV) : aload W0 (some ⟨true, n, b, z⟩) a H = aK (K := ⟨fun cs => K.k (.agg cs) H⟩) (rdCells W0 H n a) := by simp only [aload, mkv, true_or, true_and, if_true]; rfl
theorem aload_one (b : Nat) (z : List Value) (a : AV) : aload W0 (some ⟨false, 1, b, z⟩) a H = aK (K := ⟨fun cs => K.k (cs.headD .dead) H⟩) (rdCells W0 H 1 a) := by simp only [aload, mkv, or_true, true_and, Bool.false_eq_true, if_false]; rfl
def astore' (i : Option TyI) (a x : AV) (H : AH) [K : Kt] : Prop := match i, a with
  | some i, .ptr b o => astore H i.size b o x K.k
  | _, _ => False
omit K in
theorem aop_store (t : TypeId) (a x : Operand) : aop P W0 (.store t a x) e H κ = astore' (K := ⟨κ⟩) (tyi P t) (ev e a) (ev e x) H := rfl
def astoreK (B : Option Blk) (cs : Option (List AV)) (n b o : Nat) (H : AH) [K : Kt] : Prop := match B, cs with
  | some B, some cs => cs.length = n ∧ o + n ≤ B.cells.length ∧ cs.all leafA = true ∧ K.k .dead (H.set b ⟨wr B.cells o cs, B.esz⟩)
  | _, _ => False
theorem astore'_some (g : Bool) (n b : Nat) (z : List Value) (b' o : Nat) (x : AV) : astore' (some ⟨g, n, b, z⟩) (.ptr b' o) x H = astoreK (H.blk b') (cellsA x) n b' o H := rfl
theorem astoreK_some (B : Blk) (cs : List AV) (n b o : Nat) : astoreK (some B) (some cs) n b o H = (cs.length = n ∧ o + n ≤ B.cells.length ∧ cs.all leafA = true ∧ K.k .dead (H.set b ⟨wr B.cells o cs, B.esz⟩)) := rfl
def anil (x : AV) (H : AH) [K : Kt] : Prop := match x with
  | .ptr b o => K.k (.ptr b o) H
  | .v (.pointer (some a)) => K.k (.v (.pointer (some a))) H
  | .fn f c => K.k (.fn f c) H
  | _ => False
omit K in
theorem aop_nilCheck (x : Operand) : aop P W0 (.nilCheck x) e H κ = anil (K := ⟨κ⟩) (ev e x) H := rfl
theorem anil_ptr (b o : Nat) : anil (.ptr b o) H = K.k (.ptr b o) H := rfl
theorem anil_old (a : Addr) : anil (.v (.pointer (some a))) H = K.k (.v (.pointer (some a))) H := rfl
theorem anil_fn (f : FuncId) (c : List AV) : anil (.fn f c) H = K.k (.fn f c) H := rfl

/-! ### Operators -/
def abinop (P : Program) (op : BinOp) (t : TypeId) (x y : AV) (H : AH) [K : Kt] : Prop := match x, y with
    | .v (.bool a), .v (.bool b) => match op, P.underlying t with
      | .eql, some .bool => K.k (.v (.bool (a == b))) H
      | .neq, some .bool => K.k (.v (.bool (!(a == b)))) H
      | _, _ => False
    | .v a, .v b => match abin op a b with
      | some r => K.k (.v r) H
      | none => match op, a, b with
        | .eql, .slice a' _ _, .slice none _ _ => (elt P t).isSome = true ∧ K.k (.v (.bool a'.isNone)) H
        | .neq, .slice a' _ _, .slice none _ _ => (elt P t).isSome = true ∧ K.k (.v (.bool a'.isSome)) H
        | _, _, _ => False
    | .sl b o n, .v (.slice none _ _) => match op with
      | .eql => (elt P t).isSome = true ∧ K.k (.v (.bool false)) H
      | .neq => (elt P t).isSome = true ∧ K.k (.v (.bool true)) H
      | _ => False
    | .agg l, .agg l' => match op with
      | .eql => ∃ xs ys r, l = xs.map .v ∧ l' = ys.map .v ∧ EqAt P t xs ys r ∧ K.k (.v (.bool r)) H
      | .neq => ∃ xs ys r, l = xs.map .v ∧ l' = ys.map .v ∧ EqAt P t xs ys r ∧ K.k (.v (.bool !r)) H
      | _ => False
    | _, _ => False
omit K in
theorem aop_binOp (op : BinOp) (t : TypeId) (x y : Operand) (c : TypeId) : aop P W0 (.binOp op t x y c) e H κ = abinop (K := ⟨κ⟩) P op t (ev e x) (ev e y) H := rfl
variable (t : TypeId) (k : IntKind) (a b : Int)
theorem bop_add : abinop P .add t (.v (.int k a)) (.v (.int k b)) H = K.k (.v (.int k (k.wrap (a + b)))) H := by simp [abinop, abin]
theorem bop_sub : abinop P .sub t (.v (.int k a)) (.v (.int k b)) H = K.k (.v (.int k (k.wrap (a - b)))) H := by simp [abinop, abin]
theorem bop_mul : abinop P .mul t (.v (.int k a)) (.v (.int k b)) H = K.k (.v (.int k (k.wrap (a * b)))) H := by simp [abinop, abin]
theorem bop_quo (hb : b ≠ 0) : abinop P .quo t (.v (.int k a)) (.v (.int k b)) H = K.k (.v (.int k (k.wrap (a.tdiv b)))) H := by simp [abinop, abin, hb]
theorem bop_rem (hb : b ≠ 0) : abinop P .rem t (.v (.int k a)) (.v (.int k b)) H = K.k (.v (.int k (a.tmod b))) H := by simp [abinop, abin, hb]
theorem bop_and : abinop P .and t (.v (.int k a)) (.v (.int k b)) H = K.k (.v (.int k (bits .and k a b))) H := by simp [abinop, abin]
theorem bop_or : abinop P .or t (.v (.int k a)) (.v (.int k b)) H = K.k (.v (.int k (bits .or k a b))) H := by simp [abinop, abin]
theorem bop_xor : abinop P .xor t (.v (.int k a)) (.v (.int k b)) H = K.k (.v (.int k (bits .xor k a b))) H := by simp [abinop, abin]
theorem bop_shl (k' : IntKind) (hb : 0 ≤ b) : abinop P .shl t (.v (.int k a)) (.v (.int k' b)) H = K.k (.v (.int k (k.wrap (a * 2 ^ (min b.toNat k.bits))))) H := by simp [abinop, abin, hb]
theorem bop_shr (k' : IntKind) (hb : 0 ≤ b) : abinop P .shr t (.v (.int k a)) (.v (.int k' b)) H = K.k (.v (.int k (a.fdiv (2 ^ (min b.toNat k.bits))))) H := by simp [abinop, abin, hb]
theorem bop_eql : abinop P .eql t (.v (.int k a)) (.v (.int k b)) H = K.k (.v (.bool (decide (a = b)))) H := by
  simp [abinop, abin]; rw [show (a == b) = decide (a = b) from rfl]
theorem bop_neq : abinop P .neq t (.v (.int k a)) (.v (.int k b)) H = K.k (.v (.bool (!decide (a = b)))) H := by
  simp [abinop, abin]; rw [show (a != b) = !decide (a = b) from rfl]
theorem bop_lss : abinop P .lss t (.v (.int k a)) (.v (.int k b)) H = K.k (.v (.bool (decide (a < b)))) H := by simp [abinop, abin]
theorem bop_leq : abinop P .leq t (.v (.int k a)) (.v (.int k b)) H = K.k (.v (.bool (decide (a ≤ b)))) H := by simp [abinop, abin]
theorem bop_gtr : abinop P .gtr t (.v (.int k a)) (.v (.int k b)) H = K.k (.v (.bool (decide (b < a)))) H := by simp [abinop, abin]
theorem bop_geq : abinop P .geq t (.v (.int k a)) (.v (.int k b)) H = K.k (.v (.bool (decide (b ≤ a)))) H := by simp [abinop, abin]
theorem bop_beq (hb : P.underlying t = some .bool) (p q : Bool) : abinop P .eql t (.v (.bool p)) (.v (.bool q)) H = K.k (.v (.bool (p == q))) H := by simp [abinop, hb]
theorem bop_bne (hb : P.underlying t = some .bool) (p q : Bool) : abinop P .neq t (.v (.bool p)) (.v (.bool q)) H = K.k (.v (.bool (!(p == q)))) H := by simp [abinop, hb]
theorem bop_sadd (s u : ByteArray) : abinop P .add t (.v (.string s)) (.v (.string u)) H = aK (K := ⟨fun _ => K.k (.v (.string (s ++ u))) H⟩) (if s.size + u.size ≤ 9223372036854775807 then some [] else none) := by
  by_cases h : s.size + u.size ≤ 9223372036854775807 <;> simp [abinop, abin, aK, h]
theorem bop_seql (s u : ByteArray) : abinop P .eql t (.v (.string s)) (.v (.string u)) H = K.k (.v (.bool (s.toList == u.toList))) H := by simp [abinop, abin]
theorem bop_sneq (s u : ByteArray) : abinop P .neq t (.v (.string s)) (.v (.string u)) H = K.k (.v (.bool (!(s.toList == u.toList)))) H := by simp [abinop, abin]
theorem bop_slss (s u : ByteArray) : abinop P .lss t (.v (.string s)) (.v (.string u)) H = K.k (.v (.bool (Op.bytesLess s.toList u.toList))) H := by simp [abinop, abin]
theorem bop_nil (a' : Option Addr) (n c n' c' : Nat) (he : (elt P t).isSome = true) : abinop P .eql t (.v (.slice a' n c)) (.v (.slice none n' c')) H = K.k (.v (.bool a'.isNone)) H := by simp [abinop, abin, he]
theorem bop_nonnil (a' : Option Addr) (n c n' c' : Nat) (he : (elt P t).isSome = true) : abinop P .neq t (.v (.slice a' n c)) (.v (.slice none n' c')) H = K.k (.v (.bool a'.isSome)) H := by simp [abinop, abin, he]
theorem bop_slnil (b' o n n' c' : Nat) (he : (elt P t).isSome = true) : abinop P .eql t (.sl b' o n) (.v (.slice none n' c')) H = K.k (.v (.bool false)) H := by simp [abinop, he]
theorem bop_slnonnil (b' o n n' c' : Nat) (he : (elt P t).isSome = true) : abinop P .neq t (.sl b' o n) (.v (.slice none n' c')) H = K.k (.v (.bool true)) H := by simp [abinop, he]

def aunop (op : UnOp) (x : AV) (H : AH) [K : Kt] : Prop := match x with
    | .v a => match aun op a with | some r => K.k (.v r) H | none => False
    | _ => False
omit K in
theorem aop_unOp (op : UnOp) (t : TypeId) (x : Operand) : aop P W0 (.unOp op t x) e H κ = aunop (K := ⟨κ⟩) op (ev e x) H := rfl
theorem uop_not (b : Bool) : aunop .not (.v (.bool b)) H = K.k (.v (.bool !b)) H := rfl
theorem uop_neg : aunop .neg (.v (.int k a)) H = K.k (.v (.int k (k.wrap (0 - a)))) H := rfl
def aconv (P : Program) (W0 : World) (src dst : TypeId) (x : AV) (H : AH) [K : Kt] : Prop := match x with
    | .v (.int k n) => match intKd P dst, (P.underlying src).isSome with | some k', true => K.k (.v (.int k' (k'.wrap n))) H | _, _ => False
    | .v (.string s) => if isStr P src && isStr P dst then K.k (.v (.string s)) H else False
    | .sl b o n => match elt P src, isStr P dst with
      | some e', true => intKd P e' = some .u8 ∧ match (slCells W0 H 1 n (.sl b o n)).bind intsOf with | some l => K.k (.v (.string (strOfNums l))) H | none => False
      | _, _ => False
    | .v (.slice none _ _) => match elt P src, isStr P dst with
      | some e', true => intKd P e' = some .u8 ∧ K.k (.v (.string .empty)) H
      | _, _ => False
    | _ => False
omit K in
theorem aop_convert (src dst : TypeId) (x : Operand) : aop P W0 (.convert src dst x) e H κ = aconv (K := ⟨κ⟩) P W0 src dst (ev e x) H := rfl
theorem conv_int {src dst : TypeId} {k' : IntKind} (hd : intKd P dst = some k') (hs : (P.underlying src).isSome = true) : aconv P W0 src dst (.v (.int k a)) H = K.k (.v (.int k' (k'.wrap a))) H := by simp [aconv, hd, hs]
theorem conv_str {src dst : TypeId} (hs : isStr P src = true) (hd : isStr P dst = true) (s : ByteArray) : aconv P W0 src dst (.v (.string s)) H = K.k (.v (.string s)) H := by simp [aconv, hs, hd]

/-! ### Places -/
def afa2 (i : Option TyI) (off : Nat) (x : AV) (H : AH) [K : Kt] : Prop := match i, x with
  | some i, .ptr b o => i.size ≠ 0 ∧ K.k (.ptr b (o + off)) H
  | some i, .v (.pointer (some a)) => i.size ≠ 0 ∧ K.k (.v (.pointer (some (a.add off)))) H
  | _, _ => False
def afa (P : Program) (f : Option (Nat × TypeId)) (x : AV) (H : AH) [K : Kt] : Prop := match f with
  | some (off, ft) => afa2 (tyi P ft) off x H
  | none => False
omit K in
theorem aop_fieldAddr (t : TypeId) (x : Operand) (f : Nat) : aop P W0 (.fieldAddr t x f) e H κ = afa (K := ⟨κ⟩) P (fldt P t f) (ev e x) H := rfl
theorem afa_some (off : Nat) (ft : TypeId) (x : AV) : afa P (some (off, ft)) x H = afa2 (tyi P ft) off x H := rfl
theorem afa2_ptr (g : Bool) (n b : Nat) (z : List Value) (off b' o : Nat) : afa2 (some ⟨g, n + 1, b, z⟩) off (.ptr b' o) H = K.k (.ptr b' (o + off)) H := by simp [afa2]
theorem afa2_old (g : Bool) (n b : Nat) (z : List Value) (off : Nat) (a : Addr) : afa2 (some ⟨g, n + 1, b, z⟩) off (.v (.pointer (some a))) H = K.k (.v (.pointer (some (a.add off)))) H := by simp [afa2]
def afld2 (i : Option TyI) (off : Nat) (x : AV) (H : AH) [K : Kt] : Prop := match i, x with
  | some i, .agg l => off + i.size ≤ l.length ∧ (i.agg = true ∨ i.size = 1) ∧ K.k (mkv i.agg ((l.drop off).take i.size)) H
  | _, _ => False
def afld (P : Program) (f : Option (Nat × TypeId)) (x : AV) (H : AH) [K : Kt] : Prop := match f with
  | some (off, ft) => afld2 (tyi P ft) off x H
  | none => False
omit K in
theorem aop_field (t : TypeId) (x : Operand) (f : Nat) : aop P W0 (.field t x f) e H κ = afld (K := ⟨κ⟩) P (fldt P t f) (ev e x) H := rfl
theorem afld_some (off : Nat) (ft : TypeId) (x : AV) : afld P (some (off, ft)) x H = afld2 (tyi P ft) off x H := rfl
theorem afld2_agg (n b : Nat) (z : List Value) (off : Nat) (l : List AV) : afld2 (some ⟨true, n, b, z⟩) off (.agg l) H = (off + n ≤ l.length ∧ K.k (.agg ((l.drop off).take n)) H) := by simp [afld2, mkv]
theorem afld2_one (b : Nat) (z : List Value) (off : Nat) (l : List AV) : afld2 (some ⟨false, 1, b, z⟩) off (.agg l) H = (off + 1 ≤ l.length ∧ K.k (((l.drop off).take 1).headD .dead) H) := by simp [afld2, mkv]
def aixs (i : Option TyI) (x j : AV) (H : AH) [K : Kt] : Prop := match i, x, j with
    | some i, .sl b o n, .v (.int _ j) => 0 ≤ j ∧ j < n ∧ (match H.blk b with | some B => B.esz = i.size | none => False) ∧ K.k (.ptr b (o + j.toNat * i.size)) H
    | some i, .slc b o n _, .v (.int _ j) => 0 ≤ j ∧ j < n ∧ (match H.blk b with | some B => B.esz = i.size | none => False) ∧ K.k (.ptr b (o + j.toNat * i.size)) H
    | some i, .v (.slice (some a) n _), .v (.int _ j) => 0 ≤ j ∧ j < n ∧ K.k (.v (.pointer (some (a.add (j.toNat * i.size))))) H
    | _, _, _ => False
def aixr (i : Option TyI) (n : Nat) (x j : AV) (H : AH) [K : Kt] : Prop := match i, x, j with
    | some i, .ptr b o, .v (.int _ j) => 0 ≤ j ∧ j < n ∧ K.k (.ptr b (o + j.toNat * i.size)) H
    | some i, .v (.pointer (some a)), .v (.int _ j) => 0 ≤ j ∧ j < n ∧ K.k (.v (.pointer (some (a.add (j.toNat * i.size))))) H
    | _, _, _ => False
def aixa (P : Program) (a : Option (Nat × TypeId)) (t : TypeId) (x j : AV) (H : AH) [K : Kt] : Prop := match a with
    | some (n, el) => aixr (tyi P el) n x j H
    | none => aixs ((elt P t).bind (tyi P)) x j H
omit K in
theorem aop_indexAddr (t : TypeId) (x ix : Operand) : aop P W0 (.indexAddr t x ix) e H κ = aixa (K := ⟨κ⟩) P (arrt P t) t (ev e x) (ev e ix) H := rfl
theorem aixa_some (n : Nat) (el t : TypeId) (x j : AV) : aixa P (some (n, el)) t x j H = aixr (tyi P el) n x j H := rfl
theorem aixa_none (t : TypeId) (x j : AV) : aixa P none t x j H = aixs ((elt P t).bind (tyi P)) x j H := rfl
theorem aixr_ptr (g : Bool) (s b : Nat) (z : List Value) (n b' o : Nat) (k : IntKind) (j : Int) : aixr (some ⟨g, s, b, z⟩) n (.ptr b' o) (.v (.int k j)) H = (0 ≤ j ∧ j < n ∧ K.k (.ptr b' (o + j.toNat * s)) H) := rfl
/-- An element's place. -/
def ixA (s : Nat) : AV → Nat → AV
  | .sl b o n, j => .ptr b (o + j * s)
  | .slc b o n _, j => .ptr b (o + j * s)
  | .v (.slice (some a) n _), j => .v (.pointer (some (a.add (j * s))))
  | _, _ => .dead
def aix (P : Program) (t : TypeId) (x j : AV) (H : AH) [K : Kt] : Prop := match x, j with
    | .v (.string s), .v (.int _ j) => isStr P t = true ∧ 0 ≤ j ∧ (∃ b : UInt8, s[j.toNat]? = some b ∧ K.k (.v (.int .u8 b.toNat)) H)
    | .agg l, .v (.int _ j) => match P.underlying t with
      | some (.array n el) => match tyi P el with
        | some i => 0 ≤ j ∧ j < n ∧ n * i.size ≤ l.length ∧ (i.agg = true ∨ i.size = 1) ∧ K.k (mkv i.agg ((l.drop (j.toNat * i.size)).take i.size)) H
        | none => False
      | _ => False
    | _, _ => False
omit K in
theorem aop_index (t : TypeId) (x ix : Operand) : aop P W0 (.index t x ix) e H κ = aix (K := ⟨κ⟩) P t (ev e x) (ev e ix) H := rfl
def aext (x : AV) (i : Nat) (H : AH) [K : Kt] : Prop := match x with
    | .tup l => match l[i]? with | some a => K.k a H | none => False
    | _ => False
omit K in
theorem aop_extract (x : Operand) (i : Nat) : aop P W0 (.extract x i) e H κ = aext (K := ⟨κ⟩) (ev e x) i H := rfl
theorem aext_zero (v : AV) (l : List AV) : aext (.tup (v :: l)) 0 H = K.k v H := rfl
theorem aext_succ (v : AV) (l : List AV) (i : Nat) : aext (.tup (v :: l)) (i + 1) H = aext (.tup l) i H := rfl

/-! ### Slices -/
def amks (i : Option TyI) (l c : AV) (H : AH) [K : Kt] : Prop := match i, l, c with
    | some i, .v (.int .i64 n), .v (.int .i64 m) => m = n ∧ 0 ≤ n ∧ n * i.bytes ≤ 281474976710656 ∧ n ≤ 281474976710656 ∧ i.zero.length = i.size ∧ K.k (.sl H.nxt 0 n.toNat) (H.new (zerosA i.zero n.toNat) i.size)
    | _, _, _ => False
omit K in
theorem aop_makeSlice (t : TypeId) (l c : Operand) : aop P W0 (.makeSlice t l c) e H κ = amks (K := ⟨κ⟩) ((elt P t).bind (tyi P)) (ev e l) (ev e c) H := rfl
theorem amks_some (g : Bool) (s b : Nat) (z : List Value) (n m : Int) : amks (some ⟨g, s, b, z⟩) (.v (.int .i64 n)) (.v (.int .i64 m)) H = (m = n ∧ 0 ≤ n ∧ n * b ≤ 281474976710656 ∧ n ≤ 281474976710656 ∧ z.length = s ∧ K.k (.sl H.nxt 0 n.toNat) (H.new (zerosA z n.toNat) s)) := rfl
omit K in
theorem aop_makeFunc (f : FuncId) (caps : Array Operand) : aop P W0 (.makeFunc (.func f) #[] caps) e H κ = κ (.fn f (caps.toList.map (ev e))) H := by simp [aop]
def aslc (W0 : World) (H : AH) (s : Nat) (x : AV) (lo hi : Option AV) [K : Kt] : Prop := aslice W0 H s x lo hi K.k
def asl (P : Program) (W0 : World) (t : TypeId) (x : AV) (lo hi : Option AV) (H : AH) [K : Kt] : Prop := match x with
    | .v (.string s) => isStr P t = true ∧ aslc W0 H 1 (.v (.string s)) lo hi
    | x => match (elt P t).bind (tyi P) with
      | some i => aslc W0 H i.size x lo hi
      | none => False
omit K in
theorem aop_slice (t : TypeId) (x : Operand) (lo hi : Option Operand) : aop P W0 (.slice t x lo hi none) e H κ = asl (K := ⟨κ⟩) P W0 t (ev e x) (lo.map (ev e)) (hi.map (ev e)) H := by
  simp only [aop, asl]
  generalize ev e x = y
  cases y with
  | v z => cases z <;> rfl
  | _ => rfl

def aslc3 (W0 : World) (H : AH) (s : Nat) (x : AV) (lo hi mx : Option AV) [K : Kt] : Prop := aslice3 W0 H s x lo hi mx K.k
def asl3 (P : Program) (W0 : World) (t : TypeId) (x : AV) (lo hi : Option AV) (m : AV) (H : AH) [K : Kt] : Prop := match (elt P t).bind (tyi P) with
      | some i => aslc3 W0 H i.size x lo hi (some m)
      | none => False
omit K in
theorem aop_slice3 (t : TypeId) (x : Operand) (lo hi : Option Operand) (m : Operand) : aop P W0 (.slice t x lo hi (some m)) e H κ = asl3 (K := ⟨κ⟩) P W0 t (ev e x) (lo.map (ev e)) (hi.map (ev e)) (ev e m) H := rfl

/-! ### Calls -/
def ACallK (P : Program) (W0 : World) (g : FuncId) (xs : List AV) (H : AH) [K : Kt] : Prop := ACallG P W0 g xs H K.k
omit K in
theorem ACallK.of {K : Kt} {g : FuncId} {xs : List AV} {R : AV → AH → Prop} (h : ACalls P W0 g xs H R) (k : ∀ v H', R v H' → K.k v H') : ACallK (K := K) P W0 g xs H := .inl (h.mono k)
omit K in
theorem ACallK.ofE {K : Kt} {g : FuncId} {xs : List AV} {R : AV → AH → Prop} (h : AExt P W0 g xs H R) (k : ∀ v H', R v H' → K.k v H') : ACallK (K := K) P W0 g xs H := ACallG.mono (.inr h) k
def abi (P : Program) (W0 : World) (b : Builtin) (ts : List TypeId) (xs : List AV) (H : AH) [K : Kt] : Prop := abuiltin P W0 b ts xs H K.k
omit K in
theorem aop_callb (b : Builtin) (args : Array Operand) (ts : Array TypeId) : aop P W0 (.call { callee := .builtin b, args := args, argTypes := ts }) e H κ = abi (K := ⟨κ⟩) P W0 b ts.toList (args.toList.map (ev e)) H := rfl
def acallv (P : Program) (W0 : World) (fv : AV) (xs : List AV) (H : AH) [K : Kt] : Prop := match fv with
  | .fn g caps => ACallK P W0 g (xs ++ caps) H
  | _ => False
omit K in
theorem aop_callv (f : Operand) (args : Array Operand) (ts : Array TypeId) : aop P W0 (.call { callee := .value f, args := args, argTypes := ts }) e H κ = acallv (K := ⟨κ⟩) P W0 (ev e f) (args.toList.map (ev e)) H := rfl
theorem acallv_fn (g : FuncId) (caps xs : List AV) : acallv P W0 (.fn g caps) xs H = ACallK P W0 g (xs ++ caps) H := rfl
theorem abi_len_str (t : TypeId) (s : ByteArray) : abi P W0 .len [t] [.v (.string s)] H = (isStr P t = true ∧ K.k (.v (.int .i64 s.size)) H) := rfl
theorem abi_len_sl (t : TypeId) (b o n : Nat) : abi P W0 .len [t] [.sl b o n] H = ((elt P t).isSome = true ∧ K.k (.v (.int .i64 n)) H) := rfl
theorem abi_len_old (t : TypeId) (a : Option Addr) (n c : Nat) : abi P W0 .len [t] [.v (.slice a n c)] H = ((elt P t).isSome = true ∧ K.k (.v (.int .i64 n)) H) := rfl
omit K in
theorem abi_len {K : Kt} {t : TypeId} {x : AV} {n : Nat} (hl : slLen x = some n) (ht : (elt P t).isSome = true) (h : K.k (.v (.int .i64 n)) H) : abi (K := K) P W0 .len [t] [x] H := by
  unfold abi
  unfold slLen at hl
  split at hl
  · injection hl with hl; subst hl; exact ⟨ht, h⟩
  · injection hl with hl; subst hl; exact ⟨ht, h⟩
  · injection hl with hl; subst hl; exact ⟨ht, h⟩
  · cases hl
theorem abi_len_slc (t : TypeId) (b o n c : Nat) : abi P W0 .len [t] [.slc b o n c] H = ((elt P t).isSome = true ∧ K.k (.v (.int .i64 n)) H) := rfl
theorem abi_cap_slc (t : TypeId) (b o n c : Nat) : abi P W0 .cap [t] [.slc b o n c] H = ((elt P t).isSome = true ∧ K.k (.v (.int .i64 c)) H) := rfl
def acopy (i : Option TyI) (d : Option (Nat × Nat × Nat)) (m : Option Nat) (src : AV) (W0 : World) (H : AH) [K : Kt] : Prop := match i, d, m with
    | some i, some (b, o, n), some m =>
      match H.blk b, slCells W0 H i.size (min m n) src with
      | some B, some new => B.esz = i.size ∧ o + n * i.size ≤ B.cells.length ∧ new.all leafA = true ∧ K.k (.v (.int .i64 (min m n : Nat))) (H.set b ⟨wr B.cells o new, B.esz⟩)
      | _, _ => False
    | _, _, _ => False
theorem abi_copy (t t' : TypeId) (dst src : AV) : abi P W0 .copy [t, t'] [dst, src] H = acopy ((elt P t).bind (tyi P)) (slBlk dst) (lenA src) src W0 H := rfl
theorem slBlk_sl (b o n : Nat) : slBlk (.sl b o n) = some (b, o, n) := rfl
theorem slBlk_slc (b o n c : Nat) : slBlk (.slc b o n c) = some (b, o, n) := rfl
theorem lenA_sl (b o n : Nat) : lenA (.sl b o n) = some n := rfl
theorem lenA_slc (b o n c : Nat) : lenA (.slc b o n c) = some n := rfl
theorem lenA_sl0 : lenA .sl0 = some 0 := rfl
theorem lenA_v (a : Option Addr) (n c : Nat) : lenA (.v (.slice a n c)) = some n := rfl
theorem lenA_of {x : AV} {n : Nat} (h : slLen x = some n) : lenA x = some n := by
  cases x <;> first | exact h | cases h
theorem abi_cap (t : TypeId) (b o n c : Nat) (ht : (elt P t).isSome = true) : abi P W0 .cap [t] [.slc b o n c] H = K.k (.v (.int .i64 c)) H := by rw [abi_cap_slc]; simp [ht]
def aapp (P : Program) (W0 : World) (H : AH) (i : Option TyI) (dst src : AV) [K : Kt] : Prop := match i, lenA src with
  | some i, some m =>
    match slCells W0 H i.size m src with
    | some new => 0 < i.size ∧ 0 < i.bytes ∧ i.zero.length = i.size ∧ new.all leafA = true ∧
      match dst with
      | .v (.slice _ 0 0) => m * i.bytes ≤ 140737488355328 ∧ if m = 0 then K.k dst H else K.k (.sl H.nxt 0 m) (H.new new i.size)
      | .sl0 => m * i.bytes ≤ 140737488355328 ∧ if m = 0 then K.k .sl0 H else K.k (.sl H.nxt 0 m) (H.new new i.size)
      | .slc b o n c =>
        match H.blk b with
        | some B => B.esz = i.size ∧ o + c * i.size ≤ B.cells.length ∧ n ≤ c ∧ (n + m) * i.bytes ≤ 140737488355328 ∧
          if n + m ≤ c then K.k (.slc b o (n + m) c) (H.set b ⟨wr B.cells (o + n * i.size) new, B.esz⟩)
          else K.k (.sl H.nxt 0 (n + m)) (H.new ((B.cells.drop o).take (n * i.size) ++ new) i.size)
        | none => False
      | .sl b o n =>
        match H.blk b with
        | some B => B.esz = i.size ∧ o + n * i.size ≤ B.cells.length ∧ (n + m) * i.bytes ≤ 140737488355328 ∧
          K.k (.sl H.nxt 0 (n + m)) ((H.kill b).new ((B.cells.drop o).take (n * i.size) ++ new) i.size)
        | none => False
      | _ => False
    | none => False
  | _, _ => False
theorem abi_append {t t' el el' : TypeId} (ht : elt P t = some el) (ht' : elt P t' = some el') (dst src : AV) : abi P W0 .append [t, t'] [dst, src] H = aapp P W0 H (tyi P el) dst src := by
  simp only [abi, abuiltin, ht, ht']
  rfl
theorem abi_min (ts : List TypeId) : abi P W0 .min ts [.v (.int k a), .v (.int k b)] H = K.k (.v (.int k (if b < a then b else a))) H := rfl
theorem abi_max (ts : List TypeId) : abi P W0 .max ts [.v (.int k a), .v (.int k b)] H = K.k (.v (.int k (if b > a then b else a))) H := rfl
attribute [go_sem ↓] aops_nil aops_cons aops_guard acode_skip acode_region acode_draw acode_seq acode_cond acode_block acode_exit acode_ret loopQ_normal loopQ_exit loopQ_ret blockQ_exit blockQ_normal blockQ_ret retA_ret retA_normal aop_move aop_assign aop_pick aop_alloc aop_box aop_build aop_buildSlice aop_load aop_store aop_nilCheck aop_binOp aop_unOp aop_convert aop_fieldAddr aop_field aop_indexAddr aop_index aop_extract aop_makeSlice aop_makeFunc aop_slice aop_slice3 aop_callb aop_callv
attribute [go_sem] ne_add add_ne resAll_cell resCell_agg resCell_one acond_true acond_false agrd_tt agrd_ff agrd_tf agrd_ft agrd_undef putA_some putA_none ev_tmp ev_const ev_func gtmp_zero gtmp_succ agt_some resAll_nil resAll_tmp nxt_new nxt_set nxt_kill mkv_true mkv_one cellsA_agg cellsA_ptr cellsA_sl cellsA_slc cellsA_sl0 cellsA_fn cellsA_int cellsA_bool cellsA_string cellsA_slice cellsA_pointer rdCells_ptr slLen_sl slLen_v lenA_sl lenA_slc lenA_sl0 lenA_v slBlk_sl slBlk_slc apick_true apick_false apick_bool aalloc_some abox_some aK_some abuild_some abuild_none abuildA_some aixa_some aixa_none aixr_ptr abuildS_some aload_agg aload_one astore'_some astoreK_some anil_ptr anil_old anil_fn bop_add bop_sub bop_mul bop_quo bop_rem bop_and bop_or bop_xor bop_eql bop_neq bop_lss bop_leq bop_gtr bop_geq bop_sadd bop_seql bop_sneq bop_slss bop_nil bop_nonnil bop_slnil bop_slnonnil uop_not uop_neg conv_int conv_str afa_some afa2_ptr afa2_old afld_some afld2_agg afld2_one aext_zero aext_succ amks_some acallv_fn abi_len_str abi_len_sl abi_len_slc abi_len_old abi_cap abi_append abi_min abi_max bop_beq bop_bne upd_at fr_cons blk_new blk_set blk_kill blk_new_self env0_nil env0_zero env0_succ
end Go.Proofs.Ythcjolappblieaa.Aw
