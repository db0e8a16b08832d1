/- The calculus 'Aw': abstract values and memory, the predicate transformer over the program's code, and its soundness. -/
import Derived.Below
import Derived.WalkKit
import Derived.Laws.AppendOwn
import Derived.Laws.Rows
import Derived.Laws.BytesArg
import Derived.Laws.Append
import Derived.Laws.Cells
import Derived.Laws.CopyRow
import Derived.Orders
namespace Go.Proofs.YtipfnhfcoolhaaaGreat.Aw
section
/-! The calculus 'Aw', part 1: abstract values, abstract memory, how they stand to the machine's, and the predicate transformer over the program's code. -/
open Go Go.RowKit
set_option linter.unusedVariables false

/-! ### Abstract values -/
inductive AV where
  | v (x : Value)
  | ptr (b o : Nat)
  | sl (b o n : Nat)
  | slc (b o n c : Nat)
  | sl0
  | agg (l : List AV)
  | tup (l : List AV)
  | fn (f : FuncId) (caps : List AV)
  | dead

/-- Where an abstract block lies: the machine's block, the first cell, an element's cells, how many cells there are from there on. -/
structure Pl where
  g : Nat
  base : Nat
  esz : Nat
  lim : Nat
abbrev Phi := Nat → Option Pl

mutual
inductive VR (φ : Phi) : AV → Value → Prop
  | v (x : Value) : VR φ (.v x) x
  | ptr {b o : Nat} {p : Pl} : φ b = some p → VR φ (.ptr b o) (.pointer (some ⟨p.g, p.base + o, none⟩))
  | sl {b o n c : Nat} {ad : Addr} {p : Pl} : φ b = some p → n ≤ c → (c = 0 ∨ (ad = ⟨p.g, p.base + o, none⟩ ∧ o + c * p.esz ≤ p.lim)) → VR φ (.sl b o n) (.slice (some ad) n c)
  | slc {b o n c : Nat} {ad : Addr} {p : Pl} : φ b = some p → n ≤ c → (c = 0 ∨ (ad = ⟨p.g, p.base + o, none⟩ ∧ o + c * p.esz ≤ p.lim)) → VR φ (.slc b o n c) (.slice (some ad) n c)
  | sl0 (a : Option Addr) : VR φ .sl0 (.slice a 0 0)
  | agg {l : List AV} {ys : List Value} : VRs φ l ys → VR φ (.agg l) (.agg ys.toArray)
  | tup {l : List AV} {ys : List Value} : VRs φ l ys → VR φ (.tup l) (.tuple ys.toArray)
  | fn {f : FuncId} {caps : List AV} {ys : List Value} : VRs φ caps ys → VR φ (.fn f caps) (.func (.func f) #[] ys.toArray)
  | dead (y : Value) : VR φ .dead y
inductive VRs (φ : Phi) : List AV → List Value → Prop
  | nil : VRs φ [] []
  | cons {a : AV} {y : Value} {l : List AV} {ys : List Value} : VR φ a y → VRs φ l ys → VRs φ (a :: l) (y :: ys)
end

def Ext (φ φ' : Phi) : Prop := ∀ b p, φ b = some p → φ' b = some p
theorem Ext.refl (φ : Phi) : Ext φ φ := fun _ _ h => h
theorem Ext.trans {a b c : Phi} (h : Ext a b) (k : Ext b c) : Ext a c := fun x p hp => k x p (h x p hp)

mutual
theorem VR.ext {φ φ' : Phi} (he : Ext φ φ') : {a : AV} → {y : Value} → VR φ a y → VR φ' a y
  | _, _, .v x => .v x
  | _, _, .ptr h => .ptr (he _ _ h)
  | _, _, .sl h1 h2 h3 => .sl (he _ _ h1) h2 h3
  | _, _, .slc h1 h2 h3 => .slc (he _ _ h1) h2 h3
  | _, _, .sl0 a => .sl0 a
  | _, _, .agg h => .agg (VRs.ext he h)
  | _, _, .tup h => .tup (VRs.ext he h)
  | _, _, .fn h => .fn (VRs.ext he h)
  | _, _, .dead y => .dead y
theorem VRs.ext {φ φ' : Phi} (he : Ext φ φ') : {l : List AV} → {ys : List Value} → VRs φ l ys → VRs φ' l ys
  | _, _, .nil => .nil
  | _, _, .cons h k => .cons (VR.ext he h) (VRs.ext he k)
end

theorem VRs.length {φ : Phi} : {l : List AV} → {ys : List Value} → VRs φ l ys → l.length = ys.length
  | _, _, .nil => rfl
  | _, _, .cons _ k => by simp [VRs.length k]
theorem VRs.get {φ : Phi} : {l : List AV} → {ys : List Value} → VRs φ l ys → ∀ (i : Nat) (a : AV), l[i]? = some a → ∃ y, ys[i]? = some y ∧ VR φ a y
  | _, _, .nil, i, a, h => by simp at h
  | _, _, .cons (a := b) (y := y) h1 k, 0, a, h => ⟨y, by simp, by simp at h; exact h ▸ h1⟩
  | _, _, .cons h1 k, i + 1, a, h => by simpa using VRs.get k i a (by simpa using h)
theorem VRs.mk {φ : Phi} : (l : List AV) → (ys : List Value) → l.length = ys.length → (∀ (i : Nat) (a : AV), l[i]? = some a → ∃ y, ys[i]? = some y ∧ VR φ a y) → VRs φ l ys
  | [], [], _, _ => .nil
  | a :: l, y :: ys, hl, h => by
    refine .cons ?_ (VRs.mk l ys (by simpa using hl) fun i b hb => ?_)
    · obtain ⟨z, hz, hv⟩ := h 0 a rfl
      simp at hz
      exact hz ▸ hv
    · simpa using h (i + 1) b (by simpa using hb)
  | [], _ :: _, hl, _ => by simp at hl
  | _ :: _, [], hl, _ => by simp at hl
theorem VRs.append {φ : Phi} : {l l' : List AV} → {ys ys' : List Value} → VRs φ l ys → VRs φ l' ys' → VRs φ (l ++ l') (ys ++ ys')
  | _, _, _, _, .nil, k => k
  | _, _, _, _, .cons h1 h2, k => .cons h1 (VRs.append h2 k)
theorem VRs.take {φ : Phi} : {l : List AV} → {ys : List Value} → VRs φ l ys → ∀ n, VRs φ (l.take n) (ys.take n)
  | _, _, .nil, n => by simp; exact .nil
  | _, _, .cons h k, 0 => by simp; exact .nil
  | _, _, .cons h k, n + 1 => by simp only [List.take_succ_cons]; exact .cons h (VRs.take k n)
theorem VRs.drop {φ : Phi} : {l : List AV} → {ys : List Value} → VRs φ l ys → ∀ n, VRs φ (l.drop n) (ys.drop n)
  | _, _, .nil, n => by simp; exact .nil
  | _, _, .cons h k, 0 => .cons h k
  | _, _, .cons h k, n + 1 => by simp only [List.drop_succ_cons]; exact VRs.drop k n
theorem VRs.vs {φ : Phi} : (xs : List Value) → VRs φ (xs.map AV.v) xs
  | [] => .nil
  | x :: xs => .cons (.v x) (VRs.vs xs)
theorem VRs.reverse_eq {φ : Phi} {xs ys : List Value} (h : VRs φ (xs.map AV.v) ys) : ys = xs := by
  induction xs generalizing ys with
  | nil => cases h; rfl
  | cons x xs ih =>
    cases h with
    | cons h k => cases h; rw [ih k]

/-! ### Abstract memory -/
structure Blk where
  cells : List AV
  esz : Nat
structure AH where
  blk : Nat → Option Blk
  nxt : Nat
def AH.new (H : AH) (cells : List AV) (esz : Nat) : AH := ⟨fun b => if b = H.nxt then some ⟨cells, esz⟩ else H.blk b, H.nxt + 1⟩
def AH.set (H : AH) (b : Nat) (B : Blk) : AH := ⟨fun b' => if b' = b then some B else H.blk b', H.nxt⟩
def AH.kill (H : AH) (b : Nat) : AH := ⟨fun b' => if b' = b then none else H.blk b', H.nxt⟩
/-- All of H's blocks are H''s, as they are. -/
def Sub (H H' : AH) : Prop := H.nxt ≤ H'.nxt ∧ ∀ b B, H.blk b = some B → H'.blk b = some B
def AH.wf (H : AH) : Prop := ∀ b, H.nxt ≤ b → H.blk b = none

/-- Memory: what was there when the law was called (W0) is as it was; each abstract block lies where φ says. -/
structure Inv (W0 : World) (φ : Phi) (H : AH) (W : World) : Prop where
  below : Below W0.heap.size W0 W
  blks : ∀ b B, H.blk b = some B → ∃ p, φ b = some p ∧ W0.heap.size ≤ p.g ∧ B.esz = p.esz ∧ B.cells.length ≤ p.lim ∧
    ∃ C e, W.heap[p.g]? = some (.cells C e (0, 0)) ∧ p.base + p.lim ≤ C.size ∧ ∀ (j : Nat) (v : AV), B.cells[j]? = some v → ∃ y, C[p.base + j]? = some y ∧ VR φ v y
  inj : ∀ b b' p p', (H.blk b).isSome = true → (H.blk b').isSome = true → φ b = some p → φ b' = some p' → p.g = p'.g → b = b'
  wf : H.wf
  non : ∀ b, H.nxt ≤ b → φ b = .none

abbrev Env := Nat → AV
def upd (e : Env) (t : Nat) (v : AV) : Env := fun u => if u = t then v else e u
def ER (φ : Phi) (e : Env) (tmps : Array Value) : Prop := ∀ t, VR φ (e t) (tmps.getD t undef)

def ev (e : Env) : Operand → AV
  | .tmp t => e t
  | .const v => .v v
  | .global _ => .dead
  | .func f => .fn f []

/-! ### Types -/
/-- Of a type: is a value of it an aggregate; its cells; its bytes; its zero value's cells. -/
structure TyI where
  agg : Bool
  size : Nat
  bytes : Nat
  zero : List Value
def isAggD : TypeDesc → Bool
  | .struct _ => true
  | .array _ _ => true
  | _ => false
def tyi (P : Program) (t : TypeId) : Option TyI :=
  match P.underlying t, P.info? t with
  | some d, some i => (i.zero).map fun z => ⟨isAggD d, i.size, i.bytes, z.cells.toList⟩
  | _, _ => none
/-- The element's type of a slice's. -/
def elt (P : Program) (t : TypeId) : Option TypeId := match P.underlying t with | some (.slice e) => some e | _ => none
/-- A field's place and type. -/
def fldt (P : Program) (t : TypeId) (f : Nat) : Option (Nat × TypeId) := match P.underlying t with | some (.struct fs) => (fs[f]?).map fun x => (x.offset, x.type) | _ => none
/-- The fields' places and sizes. -/
def places (P : Program) (t : TypeId) : Option (List (Nat × Nat)) := match P.underlying t with | some (.struct fs) => fs.toList.mapM fun f => (P.info? f.type).map fun i => (f.offset, i.size) | _ => none
/-- An array's length and element's type. -/
def arrt (P : Program) (t : TypeId) : Option (Nat × TypeId) := match P.underlying t with | some (.array n e) => some (n, e) | _ => none
def isStr (P : Program) (t : TypeId) : Bool := match P.underlying t with | some .string => true | _ => false
def intKd (P : Program) (t : TypeId) : Option IntKind := match P.underlying t with | some (.int k) => some k | _ => none
def isInt (P : Program) (t : TypeId) : Bool := match P.underlying t with | some (.int _) => true | _ => false

def mkv (agg : Bool) (cs : List AV) : AV := if agg then .agg cs else cs.headD .dead
/-- A value's cells. -/
def cellsA : AV → Option (List AV)
  | .agg l => some l
  | .v x => some (x.cells.toList.map .v)
  | .ptr b o => some [.ptr b o]
  | .sl b o n => some [.sl b o n]
  | .slc b o n c => some [.slc b o n c]
  | .sl0 => some [.sl0]
  | .fn f c => some [.fn f c]
  | .tup _ => none
  | .dead => none
def leafV : Value → Bool
  | .agg _ => false
  | .tuple _ => false
  | _ => true
def leafA : AV → Bool
  | .v x => leafV x
  | .ptr _ _ => true
  | .sl _ _ _ => true
  | .slc _ _ _ _ => true
  | .sl0 => true
  | .fn _ _ => true
  | _ => false
def wr (l : List AV) (o : Nat) (cs : List AV) : List AV := l.take o ++ cs ++ l.drop (o + cs.length)
def rdOld (W0 : World) (a : Addr) (n : Nat) : Option (List Value) := (List.range n).mapM fun i => W0.cell? (a.add i)

/-! ### Operators on plain values -/
def abin (op : BinOp) : Value → Value → Option Value
  | .int k a, .int k' b =>
    match op with
    | .shl => if 0 ≤ b then some (.int k (k.wrap (a * 2 ^ (min b.toNat k.bits)))) else none
    | .shr => if 0 ≤ b then some (.int k (a.fdiv (2 ^ (min b.toNat k.bits)))) else none
    | .add => if k = k' then some (.int k (k.wrap (a + b))) else none
    | .sub => if k = k' then some (.int k (k.wrap (a - b))) else none
    | .mul => if k = k' then some (.int k (k.wrap (a * b))) else none
    | .quo => if k = k' ∧ b ≠ 0 then some (.int k (k.wrap (a.tdiv b))) else none
    | .rem => if k = k' ∧ b ≠ 0 then some (.int k (a.tmod b)) else none
    | .and => if k = k' then some (.int k (bits .and k a b)) else none
    | .or => if k = k' then some (.int k (bits .or k a b)) else none
    | .xor => if k = k' then some (.int k (bits .xor k a b)) else none
    | .andNot => if k = k' then some (.int k (bits .andNot k a b)) else none
    | .eql => if k = k' then some (.bool (a == b)) else none
    | .neq => if k = k' then some (.bool (a != b)) else none
    | .lss => if k = k' then some (.bool (decide (a < b))) else none
    | .leq => if k = k' then some (.bool (decide (a ≤ b))) else none
    | .gtr => if k = k' then some (.bool (decide (a > b))) else none
    | .geq => if k = k' then some (.bool (decide (a ≥ b))) else none
  | .string a, .string b =>
    match op with
    | .add => if a.size + b.size ≤ 9223372036854775807 then some (.string (a ++ b)) else none
    | .eql => some (.bool (a.toList == b.toList))
    | .neq => some (.bool (!(a.toList == b.toList)))
    | .lss => some (.bool (Op.bytesLess a.toList b.toList))
    | .leq => some (.bool (Op.bytesLess a.toList b.toList || a.toList == b.toList))
    | .gtr => some (.bool (!(Op.bytesLess a.toList b.toList || a.toList == b.toList)))
    | .geq => some (.bool (!(Op.bytesLess a.toList b.toList)))
    | _ => none
  | _, _ => none
def aun (op : UnOp) : Value → Option Value
  | .int k n => match op with | .neg => some (.int k (k.wrap (0 - n))) | _ => none
  | .bool b => match op with | .not => some (.bool !b) | _ => none
  | _ => none
/-- '==' at a type whose values are bools, or structs of plain cells: a fact of the program's, laid where it is used. -/
def EqAt (P : Program) (t : TypeId) (xs ys : List Value) (r : Bool) : Prop :=
  (∀ W : World, (eqGuard .eql t (.tmp 0) (.tmp 0) (.agg xs.toArray) (.agg ys.toArray)).run P W = .ok () W) ∧ ∀ W : World, (Op.equal t (.agg xs.toArray) (.agg ys.toArray)).run P W = .ok r W

def rdCells (W0 : World) (H : AH) (n : Nat) : AV → Option (List AV)
  | .ptr b o => (H.blk b).bind fun B => if o + n ≤ B.cells.length then some ((B.cells.drop o).take n) else none
  | .v (.pointer (some a)) => (rdOld W0 a n).map (·.map .v)
  | _ => none
/-- The first n elements of a slice, as cells; s: an element's cells. -/
def slCells (W0 : World) (H : AH) (s n : Nat) : AV → Option (List AV)
  | .sl b o m => if n ≤ m then (H.blk b).bind fun B => if B.esz = s ∧ o + n * s ≤ B.cells.length then some ((B.cells.drop o).take (n * s)) else none else none
  | .slc b o m _ => if n ≤ m then (H.blk b).bind fun B => if B.esz = s ∧ o + n * s ≤ B.cells.length then some ((B.cells.drop o).take (n * s)) else none else none
  | .sl0 => if n = 0 then some [] else none
  | .v (.slice (some a) m c) => if n ≤ m ∧ m ≤ c then (rdOld W0 a (n * s)).map (·.map .v) else none
  | .v (.slice none _ _) => if n = 0 then some [] else none
  | _ => none
def slLen : AV → Option Nat
  | .sl _ _ n => some n
  | .sl0 => some 0
  | .v (.slice _ n _) => some n
  | _ => none
/-- The same, of a slice whose capacity is told too. -/
def lenA : AV → Option Nat
  | .slc _ _ n _ => some n
  | x => slLen x
/-- The block, the first cell and the length of a slice of ours. -/
def slBlk : AV → Option (Nat × Nat × Nat)
  | .sl b o n => some (b, o, n)
  | .slc b o n _ => some (b, o, n)
  | _ => none
def fillA (pl : List (Nat × Nat)) : List AV → List (Nat × AV) → Option (List AV)
  | cs, [] => some cs
  | cs, (i, x) :: rest =>
    match pl[i]?, cellsA x with
    | some (off, size), some xs => if xs.length = size ∧ off + size ≤ cs.length then fillA pl (wr cs off xs) rest else none
    | _, _ => none
def fillS (s : Nat) : List AV → List (Nat × AV) → Option (List AV)
  | cs, [] => some cs
  | cs, (i, x) :: rest =>
    match cellsA x with
    | some xs => if xs.length = s ∧ i * s + s ≤ cs.length then fillS s (wr cs (i * s) xs) rest else none
    | _ => none
/-- n zero values. -/
def zerosA (z : List Value) (n : Nat) : List AV := (List.replicate n (z.map AV.v)).flatten
def intsOf : List AV → Option (List Int)
  | [] => some []
  | .v (.int .u8 n) :: l => (intsOf l).map (n :: ·)
  | _ :: _ => none

def callable (P : Program) (f : FuncId) : Bool := match P.funcs[f]? with | some fn => fn.name != "runtime.NumGoroutine" && fn.body.isSome | none => false
/-- A call: from whatever memory that is as H says it returns, and what it returns and leaves meets R. -/
def ACalls (P : Program) (W0 : World) (f : FuncId) (args : List AV) (H : AH) (R : AV → AH → Prop) : Prop :=
  callable P f = true ∧ ∀ (φ : Phi) (W : World) (ys : List Value), Inv W0 φ H W → VRs φ args ys →
    Calls P f ys.toArray W fun e W' => ∃ (y : Value) (v : AV) (H' : AH) (φ' : Phi), e = .returned y ∧ VR φ' v y ∧ Inv W0 φ' H' W' ∧ Ext φ φ' ∧ R v H'

/-- A call of a function without a body, that hands a value back at once. -/
def AExt (P : Program) (W0 : World) (f : FuncId) (args : List AV) (H : AH) (R : AV → AH → Prop) : Prop :=
  ∀ (φ : Phi) (W : World) (ys : List Value), Inv W0 φ H W → VRs φ args ys →
    ∃ (y : Value) (W' : World), (callFunc f ys.toArray).run P W = .ok (.value y) W' ∧ ∃ (v : AV) (H' : AH) (φ' : Phi), VR φ' v y ∧ Inv W0 φ' H' W' ∧ Ext φ φ' ∧ R v H'
def ACallG (P : Program) (W0 : World) (f : FuncId) (args : List AV) (H : AH) (R : AV → AH → Prop) : Prop := ACalls P W0 f args H R ∨ AExt P W0 f args H R

/-! ### One operation -/
def astore (H : AH) (n : Nat) (b o : Nat) (x : AV) (K : AV → AH → Prop) : Prop :=
  match H.blk b, cellsA x with
  | some B, some cs => cs.length = n ∧ o + n ≤ B.cells.length ∧ cs.all leafA = true ∧ K .dead (H.set b ⟨wr B.cells o cs, B.esz⟩)
  | _, _ => False
def aappend (P : Program) (W0 : World) (H : AH) (e : TypeId) (dst src : AV) (K : AV → AH → Prop) : Prop :=
  match tyi P e, lenA src with
  | some i, some m =>
    match slCells W0 H i.size m src with
    | some new => 0 < i.size ∧ 0 < i.bytes ∧ i.zero.length = i.size ∧ new.all leafA = true ∧
      match dst with
      | .v (.slice _ 0 0) => m * i.bytes ≤ 140737488355328 ∧ if m = 0 then K dst H else K (.sl H.nxt 0 m) (H.new new i.size)
      | .sl0 => m * i.bytes ≤ 140737488355328 ∧ if m = 0 then K .sl0 H else K (.sl H.nxt 0 m) (H.new new i.size)
      | .slc b o n c =>
        match H.blk b with
        | some B => B.esz = i.size ∧ o + c * i.size ≤ B.cells.length ∧ n ≤ c ∧ (n + m) * i.bytes ≤ 140737488355328 ∧
          if n + m ≤ c then K (.slc b o (n + m) c) (H.set b ⟨wr B.cells (o + n * i.size) new, B.esz⟩)
          else K (.sl H.nxt 0 (n + m)) (H.new ((B.cells.drop o).take (n * i.size) ++ new) i.size)
        | none => False
      | .sl b o n =>
        match H.blk b with
        | some B => B.esz = i.size ∧ o + n * i.size ≤ B.cells.length ∧ (n + m) * i.bytes ≤ 140737488355328 ∧
          K (.sl H.nxt 0 (n + m)) ((H.kill b).new ((B.cells.drop o).take (n * i.size) ++ new) i.size)
        | none => False
      | _ => False
    | none => False
  | _, _ => False
/-- Zero values appended, behind a slice that has no room for them. -/
def aappendz (P : Program) (W0 : World) (H : AH) (e : TypeId) (dst : AV) (m : Nat) (K : AV → AH → Prop) : Prop :=
  match tyi P e, dst with
  | some i, .slc b o n c =>
    match H.blk b with
    | some B => 0 < i.size ∧ 0 < i.bytes ∧ i.zero.length = i.size ∧ B.esz = i.size ∧ o + c * i.size ≤ B.cells.length ∧ n ≤ c ∧ (n + m) * i.bytes ≤ 140737488355328 ∧ c < n + m ∧
      K (.sl H.nxt 0 (n + m)) (H.new ((B.cells.drop o).take (n * i.size) ++ zerosA i.zero m) i.size)
    | none => False
  | _, _ => False
def boundA (d : Nat) : Option AV → Option Int
  | none => some d
  | some (.v (.int _ i)) => some i
  | _ => none
def aslice (W0 : World) (H : AH) (s : Nat) (x : AV) (lo hi : Option AV) (K : AV → AH → Prop) : Prop :=
  match x with
  | .v (.string t) =>
    match boundA 0 lo, boundA t.size hi with
    | some l, some h => 0 ≤ l ∧ l ≤ h ∧ h ≤ t.size ∧ K (.v (.string (t.extract l.toNat h.toNat))) H
    | _, _ => False
  | .sl b o n =>
    match H.blk b with
    | some B =>
      match boundA 0 lo, boundA n hi with
      | some l, some h => B.esz = s ∧ 0 ≤ l ∧ l ≤ h ∧ h ≤ n ∧ K (.sl b (o + l.toNat * s) (h.toNat - l.toNat)) H
      | _, _ => False
    | none => False
  | .slc b o n c =>
    match H.blk b with
    | some B =>
      match boundA 0 lo, boundA n hi with
      | some l, some h => B.esz = s ∧ 0 ≤ l ∧ l ≤ h ∧ h ≤ c ∧ K (.slc b (o + l.toNat * s) (h.toNat - l.toNat) (c - l.toNat)) H
      | _, _ => False
    | none => False
  | .sl0 =>
    match boundA 0 lo, boundA 0 hi with
    | some l, some h => l = 0 ∧ h = 0 ∧ K .sl0 H
    | _, _ => False
  | .v (.slice a n c) =>
    match boundA 0 lo, boundA n hi with
    | some l, some h => 0 ≤ l ∧ l ≤ h ∧ h ≤ n ∧ n ≤ c ∧ K (.v (.slice (if c = l.toNat then a else a.map (·.add (l.toNat * s))) (h.toNat - l.toNat) (c - l.toNat))) H
    | _, _ => False
  | _ => False
/-- A slice with a limit. -/
def aslice3 (W0 : World) (H : AH) (s : Nat) (x : AV) (lo hi mx : Option AV) (K : AV → AH → Prop) : Prop :=
  match boundA 0 lo, hi.bind (fun h => boundA 0 (some h)), mx.bind (fun h => boundA 0 (some h)) with
  | some l, some h, some m =>
    match x with
    | .slc b o n c =>
      match H.blk b with
      | some B => B.esz = s ∧ 0 ≤ l ∧ l ≤ h ∧ h ≤ m ∧ m ≤ c ∧ K (.slc b (o + l.toNat * s) (h.toNat - l.toNat) (m.toNat - l.toNat)) H
      | none => False
    | x => (slLen x).isSome = true ∧ l = 0 ∧ h = 0 ∧ m = 0 ∧ K .sl0 H
  | _, _, _ => False
def abuiltin (P : Program) (W0 : World) (b : Builtin) (ts : List TypeId) (xs : List AV) (H : AH) (K : AV → AH → Prop) : Prop :=
  match b, ts, xs with
  | .len, [t], [.v (.string s)] => isStr P t = true ∧ K (.v (.int .i64 s.size)) H
  | .len, [t], [x] => (elt P t).isSome = true ∧ match lenA x with | some n => K (.v (.int .i64 n)) H | none => False
  | .append, [t, t'], [dst, src] =>
    match elt P t, elt P t' with
    | some e, some _ => aappend P W0 H e dst src K
    | some e, none => match isInt P t', src with
      | true, .v (.int .i64 m) => 0 ≤ m ∧ aappendz P W0 H e dst m.toNat K
      | _, _ => False
    | _, _ => False
  | .cap, [t], [.slc b o n c] => (elt P t).isSome = true ∧ K (.v (.int .i64 c)) H
  | .copy, [t, t'], [dst, src] =>
    match (elt P t).bind (tyi P), slBlk dst, lenA src with
    | some i, some (b, o, n), some m =>
      match H.blk b, slCells W0 H i.size (min m n) src with
      | some B, some new => B.esz = i.size ∧ o + n * i.size ≤ B.cells.length ∧ new.all leafA = true ∧ K (.v (.int .i64 (min m n : Nat))) (H.set b ⟨wr B.cells o new, B.esz⟩)
      | _, _ => False
    | _, _, _ => False
  | .min, _, [.v (.int k a), .v (.int _ b)] => K (.v (.int k (if b < a then b else a))) H
  | .max, _, [.v (.int k a), .v (.int _ b)] => K (.v (.int k (if b > a then b else a))) H
  | .clear, [t], [x] =>
    match (elt P t).bind (tyi P), slBlk x with
    | some i, some (b, o, n) => match H.blk b with
      | some B => B.esz = i.size ∧ i.zero.length = i.size ∧ i.zero.all leafV = true ∧ o + n * i.size ≤ B.cells.length ∧ K .dead (H.set b ⟨wr B.cells o (zerosA i.zero n), B.esz⟩)
      | none => False
    | _, _ => False
  | _, _, _ => False
def aop (P : Program) (W0 : World) (op : Op) (e : Env) (H : AH) (K : AV → AH → Prop) : Prop :=
  match op with
  | .move x => K (ev e x) H
  | .assign x => K (ev e x) H
  | .pick c a b => match ev e c with | .v (.bool t) => K (if t = true then ev e a else ev e b) H | _ => False
  | .alloc t => match tyi P t with | some i => K (.ptr H.nxt 0) (H.new (i.zero.map .v) i.zero.length) | none => False
  | .box _ x => match cellsA (ev e x) with | some cs => K (.ptr H.nxt 0) (H.new cs cs.length) | none => False
  | .build t parts => match tyi P t, places P t with
    | some i, some pl => match fillA pl (i.zero.map .v) (parts.toList.map fun p => (p.1, ev e p.2)) with | some cs => K (.agg cs) H | none => False
    | some i, none => match (arrt P t).bind fun p => tyi P p.2 with
      | some j => match fillS j.size (i.zero.map .v) (parts.toList.map fun p => (p.1, ev e p.2)) with | some cs => K (.agg cs) H | none => False
      | none => False
    | none, _ => False
  | .buildSlice t len parts => match (elt P t).bind (tyi P) with
    | some i => len * i.size ≤ 16777216 ∧ i.zero.length = i.size ∧
      match fillS i.size (zerosA i.zero len) (parts.toList.map fun p => (p.1, ev e p.2)) with | some cs => K (.sl H.nxt 0 len) (H.new cs i.size) | none => False
    | none => False
  | .load t a => match tyi P t with
    | some i => (i.agg = true ∨ i.size = 1) ∧ match rdCells W0 H i.size (ev e a) with | some cs => K (mkv i.agg cs) H | none => False
    | none => False
  | .store t a x => match tyi P t, ev e a with
    | some i, .ptr b o => astore H i.size b o (ev e x) K
    | _, _ => False
  | .nilCheck x => match ev e x with
    | .ptr b o => K (.ptr b o) H
    | .v (.pointer (some a)) => K (.v (.pointer (some a))) H
    | .fn f c => K (.fn f c) H
    | _ => False
  | .binOp op t x y _ => match ev e x, ev e y with
    | .v (.bool a), .v (.bool b) => match op, P.underlying t with
      | .eql, some .bool => K (.v (.bool (a == b))) H
      | .neq, some .bool => K (.v (.bool (!(a == b)))) H
      | _, _ => False
    | .v a, .v b => match abin op a b with
      | some r => K (.v r) H
      | none => match op, a, b with
        | .eql, .slice a' _ _, .slice none _ _ => (elt P t).isSome = true ∧ K (.v (.bool a'.isNone)) H
        | .neq, .slice a' _ _, .slice none _ _ => (elt P t).isSome = true ∧ K (.v (.bool a'.isSome)) H
        | _, _, _ => False
    | .sl b o n, .v (.slice none _ _) => match op with
      | .eql => (elt P t).isSome = true ∧ K (.v (.bool false)) H
      | .neq => (elt P t).isSome = true ∧ K (.v (.bool true)) H
      | _ => False
    | .agg l, .agg l' => match op with
      | .eql => ∃ xs ys r, l = xs.map .v ∧ l' = ys.map .v ∧ EqAt P t xs ys r ∧ K (.v (.bool r)) H
      | .neq => ∃ xs ys r, l = xs.map .v ∧ l' = ys.map .v ∧ EqAt P t xs ys r ∧ K (.v (.bool !r)) H
      | _ => False
    | _, _ => False
  | .unOp op _ x => match ev e x with
    | .v a => match aun op a with | some r => K (.v r) H | none => False
    | _ => False
  | .convert src dst x => match ev e x with
    | .v (.int k n) => match intKd P dst, (P.underlying src).isSome with | some k', true => K (.v (.int k' (k'.wrap n))) H | _, _ => False
    | .v (.string s) => if isStr P src && isStr P dst then K (.v (.string s)) H else False
    | .sl b o n => match elt P src, isStr P dst with
      | some e', true => intKd P e' = some .u8 ∧ match (slCells W0 H 1 n (.sl b o n)).bind intsOf with | some l => K (.v (.string (strOfNums l))) H | none => False
      | _, _ => False
    | .v (.slice none _ _) => match elt P src, isStr P dst with
      | some e', true => intKd P e' = some .u8 ∧ K (.v (.string .empty)) H
      | _, _ => False
    | _ => False
  | .makeFunc fn first caps => match fn with
    | .func f => first.size = 0 ∧ K (.fn f (caps.toList.map (ev e))) H
    | _ => False
  | .makeSlice t l c => match (elt P t).bind (tyi P), ev e l, ev e c with
    | some i, .v (.int .i64 n), .v (.int .i64 m) => m = n ∧ 0 ≤ n ∧ n * i.bytes ≤ 281474976710656 ∧ n ≤ 281474976710656 ∧ i.zero.length = i.size ∧ K (.sl H.nxt 0 n.toNat) (H.new (zerosA i.zero n.toNat) i.size)
    | _, _, _ => False
  | .slice t x lo hi mx => match mx, ev e x with
    | none, .v (.string s) => isStr P t = true ∧ aslice W0 H 1 (.v (.string s)) (lo.map (ev e)) (hi.map (ev e)) K
    | none, x => match (elt P t).bind (tyi P) with
      | some i => aslice W0 H i.size x (lo.map (ev e)) (hi.map (ev e)) K
      | none => False
    | some m, x => match (elt P t).bind (tyi P) with
      | some i => aslice3 W0 H i.size x (lo.map (ev e)) (hi.map (ev e)) (some (ev e m)) K
      | none => False
  | .fieldAddr t x f => match fldt P t f with
    | some (off, ft) => match tyi P ft, ev e x with
      | some i, .ptr b o => i.size ≠ 0 ∧ K (.ptr b (o + off)) H
      | some i, .v (.pointer (some a)) => i.size ≠ 0 ∧ K (.v (.pointer (some (a.add off)))) H
      | _, _ => False
    | none => False
  | .field t x f => match fldt P t f with
    | some (off, ft) => match tyi P ft, ev e x with
      | some i, .agg l => off + i.size ≤ l.length ∧ (i.agg = true ∨ i.size = 1) ∧ K (mkv i.agg ((l.drop off).take i.size)) H
      | _, _ => False
    | none => False
  | .indexAddr t x ix => match arrt P t with
    | some (n, el) => match tyi P el, ev e x, ev e ix with
      | some i, .ptr b o, .v (.int _ j) => 0 ≤ j ∧ j < n ∧ K (.ptr b (o + j.toNat * i.size)) H
      | some i, .v (.pointer (some a)), .v (.int _ j) => 0 ≤ j ∧ j < n ∧ K (.v (.pointer (some (a.add (j.toNat * i.size))))) H
      | _, _, _ => False
    | none => match (elt P t).bind (tyi P), ev e x, ev e ix with
    | some i, .sl b o n, .v (.int _ j) => 0 ≤ j ∧ j < n ∧ (match H.blk b with | some B => B.esz = i.size | none => False) ∧ K (.ptr b (o + j.toNat * i.size)) H
    | some i, .slc b o n _, .v (.int _ j) => 0 ≤ j ∧ j < n ∧ (match H.blk b with | some B => B.esz = i.size | none => False) ∧ K (.ptr b (o + j.toNat * i.size)) H
    | some i, .v (.slice (some a) n _), .v (.int _ j) => 0 ≤ j ∧ j < n ∧ K (.v (.pointer (some (a.add (j.toNat * i.size))))) H
    | _, _, _ => False
  | .index t x ix => match ev e x, ev e ix with
    | .v (.string s), .v (.int _ j) => isStr P t = true ∧ 0 ≤ j ∧ (∃ b : UInt8, s[j.toNat]? = some b ∧ K (.v (.int .u8 b.toNat)) H)
    | .agg l, .v (.int _ j) => match P.underlying t with
      | some (.array n el) => match tyi P el with
        | some i => 0 ≤ j ∧ j < n ∧ n * i.size ≤ l.length ∧ (i.agg = true ∨ i.size = 1) ∧ K (mkv i.agg ((l.drop (j.toNat * i.size)).take i.size)) H
        | none => False
      | _ => False
    | _, _ => False
  | .extract x i => match ev e x with
    | .tup l => match l[i]? with | some a => K a H | none => False
    | _ => False
  | .call c => match c.callee with
    | .builtin b => abuiltin P W0 b c.argTypes.toList (c.args.toList.map (ev e)) H K
    | .value f => match ev e f with
      | .fn g caps => ACallG P W0 g (c.args.toList.map (ev e) ++ caps) H K
      | _ => False
    | .invoke _ _ => False
  | _ => False
end
section
/-! The calculus 'Aw', part 2: what each operation does to memory, held against the machine. -/
open Go Go.RowKit
set_option linter.unusedVariables false
set_option linter.unusedSimpArgs false

theorem heapNew (w : World) (o : Obj) : ({ w with heap := w.heap.push o } : World).heap[w.heap.size]? = some o := by simp
theorem heapOld (w : World) (o : Obj) (i : Nat) (h : i ≠ w.heap.size) : ({ w with heap := w.heap.push o } : World).heap[i]? = w.heap[i]? := by
  simp only [Array.getElem?_push]
  rw [if_neg h]

def updφ (φ : Phi) (b : Nat) (p : Pl) : Phi := fun b' => if b' = b then some p else φ b'
theorem ext_upd {φ : Phi} {b : Nat} {p : Pl} (h : φ b = none) : Ext φ (updφ φ b p) := by
  intro x q hq
  unfold updφ
  split
  · subst_vars; rw [h] at hq; cases hq
  · exact hq

theorem Inv.heap_lt {W0 W : World} {φ : Phi} {H : AH} (h : Inv W0 φ H W) {b : Nat} {B : Blk} (hb : H.blk b = some B) : ∃ p, φ b = some p ∧ p.g < W.heap.size := by
  obtain ⟨p, hp, _, _, _, C, e, hC, _⟩ := h.blks b B hb
  exact ⟨p, hp, (Array.getElem?_eq_some_iff.1 hC).1⟩

/-- A world whose tape has moved on. -/
theorem Inv.drawn {W0 W : World} {φ : Phi} {H : AH} (h : Inv W0 φ H W) (n : Nat) : Inv W0 φ H { W with drawn := n } :=
  ⟨⟨h.below.os, h.below.tape, h.below.output, h.below.size, h.below.block⟩, h.blks, h.inj, h.wf, h.non⟩

/-- A new block of the machine's that starts with the cells of a new abstract one. -/
theorem Inv.new {W0 W : World} {φ : Phi} {H : AH} (h : Inv W0 φ H W) {cells : List AV} (esz : Nat) {C : Array Value} {e : TypeId}
    (hl : cells.length ≤ C.size) (hc : ∀ (j : Nat) (v : AV), cells[j]? = some v → ∃ y, C[j]? = some y ∧ VR φ v y) :
    Inv W0 (updφ φ H.nxt ⟨W.heap.size, 0, esz, C.size⟩) (H.new cells esz) { W with heap := W.heap.push (.cells C e) } ∧ Ext φ (updφ φ H.nxt ⟨W.heap.size, 0, esz, C.size⟩) := by
  have hx : Ext φ (updφ φ H.nxt ⟨W.heap.size, 0, esz, C.size⟩) := ext_upd (h.non _ (Nat.le_refl _))
  have hold : ∀ b, (H.blk b).isSome = true → b ≠ H.nxt := by
    intro b hb he
    rw [he, h.wf _ (Nat.le_refl _)] at hb
    cases hb
  refine ⟨⟨?_, ?_, ?_, ?_, ?_⟩, hx⟩
  · refine h.below.trans ⟨rfl, rfl, rfl, by simp, fun k hk => heapOld _ _ _ ?_⟩
    have := h.below.size
    omega
  · intro b B hb
    by_cases hbn : b = H.nxt
    · subst hbn
      simp only [AH.new, if_true] at hb
      cases hb
      refine ⟨⟨W.heap.size, 0, esz, C.size⟩, by simp [updφ], h.below.size, rfl, hl, C, e, heapNew _ _, by simp, fun j v hv => ?_⟩
      obtain ⟨y, hy, hv⟩ := hc j v hv
      exact ⟨y, by simpa using hy, hv.ext hx⟩
    · simp only [AH.new, if_neg hbn] at hb
      obtain ⟨p, hp, h1, h2, h3, C', e', hC, h4, h5⟩ := h.blks b B hb
      refine ⟨p, hx _ _ hp, h1, h2, h3, C', e', ?_, h4, fun j v hv => ?_⟩
      · rw [heapOld _ _ _ (Nat.ne_of_lt (Array.getElem?_eq_some_iff.1 hC).1)]
        exact hC
      · obtain ⟨y, hy, hv⟩ := h5 j v hv
        exact ⟨y, hy, hv.ext hx⟩
  · intro b b' p p' hb hb' hp hp' hg
    have key : ∀ b, (H.blk b).isSome = true → ∀ p, updφ φ H.nxt ⟨W.heap.size, 0, esz, C.size⟩ b = some p → φ b = some p ∧ p.g < W.heap.size := by
      intro b hb p hp
      have hbn := hold b hb
      simp only [updφ, if_neg hbn] at hp
      obtain ⟨B, hB⟩ := Option.isSome_iff_exists.1 hb
      obtain ⟨q, hq, hlt⟩ := h.heap_lt hB
      rw [hp] at hq
      cases hq
      exact ⟨hp, hlt⟩
    by_cases hbn : b = H.nxt <;> by_cases hbn' : b' = H.nxt
    · rw [hbn, hbn']
    · subst hbn
      simp only [AH.new, if_neg hbn'] at hb'
      simp only [updφ, if_true] at hp
      cases hp
      have := (key b' hb' p' hp').2
      simp only at hg
      omega
    · subst hbn'
      simp only [AH.new, if_neg hbn] at hb
      simp only [updφ, if_true] at hp'
      cases hp'
      have := (key b hb p hp).2
      simp only at hg
      omega
    · simp only [AH.new, if_neg hbn] at hb
      simp only [AH.new, if_neg hbn'] at hb'
      exact h.inj b b' p p' hb hb' (key b hb p hp).1 (key b' hb' p' hp').1 hg
  · intro b hb
    have : b ≠ H.nxt := by simp [AH.new] at hb; omega
    simp only [AH.new, if_neg this]
    exact h.wf b (by simp [AH.new] at hb; omega)
  · intro b hb
    have : b ≠ H.nxt := by simp [AH.new] at hb; omega
    simp only [updφ, if_neg this]
    exact h.non b (by simp [AH.new] at hb; omega)

/-- Fewer blocks. -/
theorem Inv.kill {W0 W : World} {φ : Phi} {H : AH} (h : Inv W0 φ H W) (b : Nat) : Inv W0 φ (H.kill b) W := by
  have hk : ∀ b' B, (H.kill b).blk b' = some B → H.blk b' = some B := by
    intro b' B hB
    simp only [AH.kill] at hB
    split at hB
    · cases hB
    · exact hB
  refine ⟨h.below, fun b' B hB => h.blks b' B (hk _ _ hB), fun b1 b2 p p' h1 h2 => ?_, fun b' hb' => ?_, h.non⟩
  · obtain ⟨B1, hB1⟩ := Option.isSome_iff_exists.1 h1
    obtain ⟨B2, hB2⟩ := Option.isSome_iff_exists.1 h2
    exact h.inj b1 b2 p p' (by rw [hk _ _ hB1]; rfl) (by rw [hk _ _ hB2]; rfl)
  · simp only [AH.kill]
    split
    · rfl
    · exact h.wf b' hb'

theorem setRowHeap (w : World) (g k : Nat) (C C' : Array Value) (e : TypeId) (hg : w.heap[g]? = some (.cells C e (0, 0))) : (w.setRow g C').heap[k]? = if k = g then some (.cells C' e (0, 0)) else w.heap[k]? := by
  by_cases h : k = g
  · rw [if_pos h, h]; exact setRow_heap w g C C' e _ hg
  · rw [if_neg h]; exact setRow_other w g k _ h

/-- New contents of one block's place; the block stays, or takes another name. -/
theorem Inv.write {W0 W : World} {φ : Phi} {H : AH} (h : Inv W0 φ H W) {b : Nat} {B : Blk} {p : Pl} (hb : H.blk b = some B) (hp : φ b = some p) {C C' : Array Value} {e : TypeId}
    (hC : W.heap[p.g]? = some (.cells C e (0, 0))) (hs : C'.size = C.size) {cells : List AV} (hl : cells.length ≤ p.lim)
    (hc : ∀ (j : Nat) (v : AV), cells[j]? = some v → ∃ y, C'[p.base + j]? = some y ∧ VR φ v y) : Inv W0 φ (H.set b ⟨cells, B.esz⟩) (W.setRow p.g C') := by
  obtain ⟨p0, hp0, h1, h2, h3, C0, e0, hC0, h4, h5⟩ := h.blks b B hb
  rw [hp] at hp0
  cases hp0
  rw [hC] at hC0
  cases hC0
  have hset : ∀ b' B', (H.set b ⟨cells, B.esz⟩).blk b' = some B' → b' ≠ b → H.blk b' = some B' := by
    intro b' B' hB hne
    simpa only [AH.set, if_neg hne] using hB
  have hsome : ∀ b', ((H.set b ⟨cells, B.esz⟩).blk b').isSome = true → (H.blk b').isSome = true := by
    intro b' hB
    by_cases hne : b' = b
    · rw [hne, hb]; rfl
    · simpa only [AH.set, if_neg hne] using hB
  refine ⟨?_, ?_, fun b1 b2 p1 p2 g1 g2 => h.inj b1 b2 p1 p2 (hsome _ g1) (hsome _ g2), fun b' hb' => ?_, h.non⟩
  · refine h.below.trans ⟨rfl, rfl, rfl, by simp [World.setRow], fun k hk => ?_⟩
    rw [setRowHeap W p.g k C C' e hC, if_neg (by omega)]
  · intro b' B' hB'
    by_cases hne : b' = b
    · subst hne
      simp only [AH.set, if_true] at hB'
      cases hB'
      refine ⟨p, hp, h1, h2, hl, C', e, ?_, by omega, hc⟩
      rw [setRowHeap W p.g p.g C C' e hC, if_pos rfl]
    · have hB := hset _ _ hB' hne
      obtain ⟨q, hq, k1, k2, k3, D, f, hD, k4, k5⟩ := h.blks b' B' hB
      refine ⟨q, hq, k1, k2, k3, D, f, ?_, k4, k5⟩
      have : q.g ≠ p.g := fun hg => hne (h.inj b' b q p (by rw [hB]; rfl) (by rw [hb]; rfl) hq hp hg)
      rw [setRowHeap W p.g q.g C C' e hC, if_neg this]
      exact hD
  · by_cases hne : b' = b
    · have := h.wf b' hb'
      rw [hne, hb] at this
      cases this
    · simp only [AH.set, if_neg hne]
      exact h.wf b' hb'

/-- A block takes another name, begins further on, and reads anew. -/
theorem Inv.rename {W0 W : World} {φ : Phi} {H : AH} (h : Inv W0 φ H W) {b : Nat} {B : Blk} {p : Pl} (hb : H.blk b = some B) (hp : φ b = some p) {C C' : Array Value} {e : TypeId}
    (hC : W.heap[p.g]? = some (.cells C e (0, 0))) (hs : C'.size = C.size) {cells : List AV} (o : Nat) (ho : o + cells.length ≤ p.lim)
    (hc : ∀ (j : Nat) (v : AV), cells[j]? = some v → ∃ y, C'[p.base + o + j]? = some y ∧ VR φ v y) :
    Inv W0 (updφ φ H.nxt ⟨p.g, p.base + o, p.esz, p.lim - o⟩) ((H.kill b).new cells p.esz) (W.setRow p.g C') ∧ Ext φ (updφ φ H.nxt ⟨p.g, p.base + o, p.esz, p.lim - o⟩) := by
  obtain ⟨p0, hp0, h1, h2, h3, C0, e0, hC0, h4, h5⟩ := h.blks b B hb
  rw [hp] at hp0
  cases hp0
  rw [hC] at hC0
  cases hC0
  have hx : Ext φ (updφ φ H.nxt ⟨p.g, p.base + o, p.esz, p.lim - o⟩) := ext_upd (h.non _ (Nat.le_refl _))
  have hbn : b ≠ H.nxt := by
    intro he
    rw [he, h.wf _ (Nat.le_refl _)] at hb
    cases hb
  have hold : ∀ b' B', ((H.kill b).new cells p.esz).blk b' = some B' → b' ≠ H.nxt → H.blk b' = some B' ∧ b' ≠ b := by
    intro b' B' hB hne
    have hne' : ¬ b' = (H.kill b).nxt := hne
    simp only [AH.new, if_neg hne'] at hB
    simp only [AH.kill] at hB
    split at hB
    · cases hB
    · exact ⟨hB, by assumption⟩
  refine ⟨⟨?_, ?_, ?_, ?_, ?_⟩, hx⟩
  · refine h.below.trans ⟨rfl, rfl, rfl, by simp [World.setRow], fun k hk => ?_⟩
    rw [setRowHeap W p.g k C C' e hC, if_neg (by omega)]
  · intro b' B' hB'
    by_cases hne : b' = H.nxt
    · subst hne
      have hB2 : ((H.kill b).new cells p.esz).blk H.nxt = some ⟨cells, p.esz⟩ := by simp [AH.new, AH.kill]
      rw [hB2] at hB'
      cases hB'
      refine ⟨⟨p.g, p.base + o, p.esz, p.lim - o⟩, by simp [updφ], h1, rfl, by simp; omega, C', e, ?_, by simp; omega, fun j v hv => ?_⟩
      · rw [setRowHeap W p.g p.g C C' e hC, if_pos rfl]
      · obtain ⟨y, hy, hv⟩ := hc j v hv
        exact ⟨y, hy, hv.ext hx⟩
    · obtain ⟨hB, hnb⟩ := hold _ _ hB' hne
      obtain ⟨q, hq, k1, k2, k3, D, f, hD, k4, k5⟩ := h.blks b' B' hB
      refine ⟨q, hx _ _ hq, k1, k2, k3, D, f, ?_, k4, fun j v hv => ?_⟩
      · have : q.g ≠ p.g := fun hg => hnb (h.inj b' b q p (by rw [hB]; rfl) (by rw [hb]; rfl) hq hp hg)
        rw [setRowHeap W p.g q.g C C' e hC, if_neg this]
        exact hD
      · obtain ⟨y, hy, hv⟩ := k5 j v hv
        exact ⟨y, hy, hv.ext hx⟩
  · intro b1 b2 p1 p2 g1 g2 e1 e2 hg
    obtain ⟨B1, hB1⟩ := Option.isSome_iff_exists.1 g1
    obtain ⟨B2, hB2⟩ := Option.isSome_iff_exists.1 g2
    have look : ∀ b' B' q, ((H.kill b).new cells p.esz).blk b' = some B' → b' ≠ H.nxt → updφ φ H.nxt ⟨p.g, p.base + o, p.esz, p.lim - o⟩ b' = some q → φ b' = some q ∧ q.g ≠ p.g := by
      intro b' B' q hB' hne hq
      obtain ⟨hB, hnb⟩ := hold _ _ hB' hne
      simp only [updφ, if_neg hne] at hq
      exact ⟨hq, fun hg => hnb (h.inj b' b q p (by rw [hB]; rfl) (by rw [hb]; rfl) hq hp hg)⟩
    by_cases n1 : b1 = H.nxt <;> by_cases n2 : b2 = H.nxt
    · rw [n1, n2]
    · subst n1
      simp only [updφ, if_true] at e1
      cases e1
      exact absurd hg.symm (look b2 B2 p2 hB2 n2 e2).2
    · subst n2
      simp only [updφ, if_true] at e2
      cases e2
      exact absurd hg (look b1 B1 p1 hB1 n1 e1).2
    · exact h.inj b1 b2 p1 p2 (by rw [(hold _ _ hB1 n1).1]; rfl) (by rw [(hold _ _ hB2 n2).1]; rfl) (look b1 B1 p1 hB1 n1 e1).1 (look b2 B2 p2 hB2 n2 e2).1 hg
  · intro b' hb'
    have : ¬ b' = (H.kill b).nxt := by simp [AH.new, AH.kill] at hb' ⊢; omega
    simp only [AH.new, if_neg this]
    simp only [AH.kill]
    split
    · rfl
    · exact h.wf b' (by simp [AH.new, AH.kill] at hb'; omega)
  · intro b' hb'
    have : b' ≠ H.nxt := by simp [AH.new, AH.kill] at hb'; omega
    simp only [updφ, if_neg this]
    exact h.non b' (by simp [AH.new, AH.kill] at hb'; omega)

/-- What a block's cells read in the machine. -/
theorem Inv.reads {W0 W : World} {φ : Phi} {H : AH} (h : Inv W0 φ H W) {b : Nat} {B : Blk} (hb : H.blk b = some B) (o n : Nat) (hn : o + n ≤ B.cells.length) :
    ∃ p ys, φ b = some p ∧ VRs φ ((B.cells.drop o).take n) ys ∧ ∀ (j : Nat) (y : Value), ys[j]? = some y → W.cell? ⟨p.g, p.base + o + j, none⟩ = some y := by
  obtain ⟨p, hp, h1, h2, h3, C, e, hC, h4, h5⟩ := h.blks b B hb
  refine ⟨p, ((C.toList.drop (p.base + o)).take n), hp, VRs.mk _ _ ?_ fun j a ha => ?_, fun j y hy => ?_⟩
  · simp; omega
  · have hj : j < n := by
      have := (List.getElem?_eq_some_iff.1 ha).1
      simp at this; omega
    rw [List.getElem?_take, if_pos hj, List.getElem?_drop] at ha
    obtain ⟨y, hy, hv⟩ := h5 _ _ ha
    refine ⟨y, ?_, hv⟩
    rw [List.getElem?_take, if_pos hj, List.getElem?_drop, Array.getElem?_toList, ← hy]
    congr 1
    omega
  · have hj : j < n := by
      have := (List.getElem?_eq_some_iff.1 hy).1
      simp at this; omega
    rw [List.getElem?_take, if_pos hj, List.getElem?_drop, Array.getElem?_toList] at hy
    simp [World.cell?, hC, hy]

theorem rdOld_cells {W0 : World} {a : Addr} {n : Nat} {cs : List Value} (h : rdOld W0 a n = some cs) : cs.length = n ∧ ∀ (j : Nat) (v : Value), cs[j]? = some v → W0.cell? (a.add j) = some v := by
  unfold rdOld at h
  have key : ∀ (l : List Nat) (cs : List Value), l.mapM (fun i => W0.cell? (a.add i)) = some cs → cs.length = l.length ∧ ∀ (j : Nat) (v : Value), cs[j]? = some v → ∃ i, l[j]? = some i ∧ W0.cell? (a.add i) = some v := by
    intro l
    induction l with
    | nil => intro cs h; simp at h; subst h; simp
    | cons i l ih =>
      intro cs h
      simp only [List.mapM_cons] at h
      cases h1 : W0.cell? (a.add i) with
      | none => simp [h1] at h
      | some x =>
        cases h2 : l.mapM (fun i => W0.cell? (a.add i)) with
        | none => simp [h1, h2] at h
        | some xs =>
          simp [h1, h2] at h
          subst h
          obtain ⟨k1, k2⟩ := ih xs h2
          refine ⟨by simp [k1], fun j v hv => ?_⟩
          cases j with
          | zero => simp at hv; subst hv; exact ⟨i, by simp, h1⟩
          | succ j => simpa using k2 j v (by simpa using hv)
  obtain ⟨k1, k2⟩ := key _ cs h
  refine ⟨by simpa using k1, fun j v hv => ?_⟩
  obtain ⟨i, hi, hc⟩ := k2 j v hv
  have : i = j := by
    rw [List.getElem?_range (by have := (List.getElem?_eq_some_iff.1 hv).1; rw [k1] at this; simpa using this)] at hi
    simpa using hi.symm
  exact this ▸ hc

theorem Inv.old {W0 W : World} {φ : Phi} {H : AH} (h : Inv W0 φ H W) {a : Addr} {v : Value} (hc : W0.cell? a = some v) : W.cell? a = some v :=
  (h.below.cell (World.block_lt_of_cell? W0 a hc)).trans hc

/-- Reading through an address. -/
theorem Inv.rd {W0 W : World} {φ : Phi} {H : AH} (h : Inv W0 φ H W) {x : AV} {y : Value} (hx : VR φ x y) {n : Nat} {cs : List AV} (hr : rdCells W0 H n x = some cs) :
    ∃ a ys, y = .pointer (some a) ∧ VRs φ cs ys ∧ cs.length = n ∧ ∀ (j : Nat) (u : Value), ys[j]? = some u → W.cell? (a.add j) = some u := by
  cases hx with
  | v _ =>
    cases y with
    | pointer a =>
      cases a with
      | none => simp [rdCells] at hr
      | some a =>
        simp only [rdCells, Option.map_eq_some_iff] at hr
        obtain ⟨us, hu, rfl⟩ := hr
        obtain ⟨k1, k2⟩ := rdOld_cells hu
        exact ⟨a, us, rfl, VRs.vs us, by simpa using k1, fun j u hj => h.old (k2 j u hj)⟩
    | _ => simp [rdCells] at hr
  | ptr hp =>
    rename_i b o p
    simp only [rdCells, Option.bind_eq_some_iff] at hr
    obtain ⟨B, hB, hr⟩ := hr
    split at hr
    · rename_i hn
      cases hr
      obtain ⟨q, ys, hq, hv, hc⟩ := h.reads hB o n hn
      rw [hp] at hq
      cases hq
      refine ⟨_, ys, rfl, hv, by simp; omega, fun j u hj => ?_⟩
      rw [Addr.add_lit]
      exact hc j u hj
    · cases hr
  | _ => simp [rdCells] at hr

theorem VR.weak {φ : Phi} {b o n c : Nat} {y : Value} (h : VR φ (.slc b o n c) y) : VR φ (.sl b o n) y := by
  cases h with | slc h1 h2 h3 => exact .sl h1 h2 h3
/-- Reading a slice's first elements. -/
theorem Inv.slc1 {W0 W : World} {φ : Phi} {H : AH} (h : Inv W0 φ H W) {x : AV} {y : Value} (hx : VR φ x y) {s n : Nat} {cs : List AV} (hr : slCells W0 H s n x = some cs) (hn : ∀ b o m c, x ≠ .slc b o m c) :
    ∃ (A : Option Addr) (m c : Nat) (ys : List Value), y = .slice A m c ∧ VRs φ cs ys ∧ cs.length = n * s ∧ n ≤ m ∧
      (A = none → n = 0) ∧ ∀ a, A = some a → ∀ (j : Nat) (u : Value), ys[j]? = some u → W.cell? (a.add j) = some u := by
  cases hx with
  | slc _ _ _ => exact absurd rfl (hn _ _ _ _)
  | sl0 a =>
    simp only [slCells] at hr
    split at hr
    · rename_i h0
      cases hr
      subst h0
      exact ⟨a, 0, 0, [], rfl, .nil, by simp, Nat.le_refl _, fun _ => rfl, fun a ha j u hj => by simp at hj⟩
    · cases hr
  | v _ =>
    cases y with
    | slice a m c =>
      cases a with
      | none =>
        simp only [slCells] at hr
        split at hr
        · cases hr
          subst_vars
          exact ⟨none, m, c, [], rfl, .nil, by simp, Nat.zero_le _, fun _ => rfl, fun a ha => by cases ha⟩
        · cases hr
      | some a =>
        simp only [slCells] at hr
        split at hr
        · rename_i hn
          simp only [Option.map_eq_some_iff] at hr
          obtain ⟨us, hu, rfl⟩ := hr
          obtain ⟨k1, k2⟩ := rdOld_cells hu
          exact ⟨some a, m, c, us, rfl, VRs.vs us, by simpa using k1, hn.1, fun h => by (cases h), fun b hb j u hj => by cases hb; exact h.old (k2 j u hj)⟩
        · cases hr
    | _ => simp [slCells] at hr
  | sl hp hc hcap =>
    rename_i b o m c ad p
    simp only [slCells] at hr
    split at hr
    · rename_i hn
      simp only [Option.bind_eq_some_iff] at hr
      obtain ⟨B, hB, hr⟩ := hr
      split at hr
      · rename_i hn2
        cases hr
        obtain ⟨q, ys, hq, hv, hcell⟩ := h.reads hB o (n * s) hn2.2
        rw [hp] at hq
        cases hq
        refine ⟨some ad, m, c, ys, rfl, hv, by simp; omega, hn, fun h => by (cases h), fun a ha j u hj => ?_⟩
        cases ha
        rcases hcap with hc0 | ⟨rfl, _⟩
        · have h0 : n = 0 := by omega
          subst h0
          have hl := hv.length
          simp at hl
          have : ys = [] := List.eq_nil_of_length_eq_zero hl.symm
          subst this
          simp at hj
        · rw [Addr.add_lit]
          exact hcell j u hj
      · cases hr
    · cases hr
  | _ => simp [slCells] at hr
theorem Inv.slc {W0 W : World} {φ : Phi} {H : AH} (h : Inv W0 φ H W) {x : AV} {y : Value} (hx : VR φ x y) {s n : Nat} {cs : List AV} (hr : slCells W0 H s n x = some cs) :
    ∃ (A : Option Addr) (m c : Nat) (ys : List Value), y = .slice A m c ∧ VRs φ cs ys ∧ cs.length = n * s ∧ n ≤ m ∧
      (A = none → n = 0) ∧ ∀ a, A = some a → ∀ (j : Nat) (u : Value), ys[j]? = some u → W.cell? (a.add j) = some u := by
  by_cases hn : ∃ b o m c, x = .slc b o m c
  · obtain ⟨b, o, m, c, rfl⟩ := hn
    exact h.slc1 hx.weak (show slCells W0 H s n (.sl b o m) = some cs from hr) (fun _ _ _ _ h => by cases h)
  · exact h.slc1 hx hr fun b o m c h => hn ⟨b, o, m, c, h⟩

theorem ER.ev {φ : Phi} {e : Env} {a : Act} (h : ER φ e a.tmps) (x : Operand) : VR φ (ev e x) (a.eval x) := by
  cases x with
  | tmp t => exact h t
  | const v => exact .v v
  | global g => exact .dead _
  | func f => exact .fn .nil
theorem ER.ext {φ φ' : Phi} {e : Env} {t : Array Value} (h : ER φ e t) (hx : Ext φ φ') : ER φ' e t := fun i => (h i).ext hx

/-- A value's cells. -/
theorem cells_ok {φ : Phi} {x : AV} {y : Value} (h : VR φ x y) {cs : List AV} (hc : cellsA x = some cs) : VRs φ cs y.cells.toList := by
  cases h with
  | v x => simp only [cellsA, Option.some.injEq] at hc; subst hc; exact VRs.vs _
  | ptr h => simp only [cellsA, Option.some.injEq] at hc; subst hc; exact .cons (.ptr h) .nil
  | sl h1 h2 h3 => simp only [cellsA, Option.some.injEq] at hc; subst hc; exact .cons (.sl h1 h2 h3) .nil
  | slc h1 h2 h3 => simp only [cellsA, Option.some.injEq] at hc; subst hc; exact .cons (.slc h1 h2 h3) .nil
  | sl0 a => simp only [cellsA, Option.some.injEq] at hc; subst hc; exact .cons (.sl0 a) .nil
  | agg h => simp only [cellsA, Option.some.injEq] at hc; subst hc; simpa [Value.cells] using h
  | tup h => simp [cellsA] at hc
  | fn h => simp only [cellsA, Option.some.injEq] at hc; subst hc; exact .cons (.fn h) .nil
  | dead y => simp [cellsA] at hc
theorem leaf_ok {φ : Phi} {x : AV} {y : Value} (h : VR φ x y) (hl : leafA x = true) : y.oneCell' = true := by
  cases h with
  | v x => simp only [leafA] at hl; cases y <;> simp_all [leafV, Value.oneCell']
  | ptr h => rfl
  | sl _ _ _ => rfl
  | slc _ _ _ => rfl
  | sl0 _ => rfl
  | agg h => simp [leafA] at hl
  | tup h => simp [leafA] at hl
  | fn h => rfl
  | dead y => simp [leafA] at hl
theorem leafs_ok {φ : Phi} {l : List AV} {ys : List Value} (h : VRs φ l ys) (hl : l.all leafA = true) : ∀ y ∈ ys, y.oneCell' = true := by
  intro y hy
  obtain ⟨i, hi⟩ := List.mem_iff_getElem?.1 hy
  have hlen := h.length
  have hil : i < l.length := by rw [hlen]; exact (List.getElem?_eq_some_iff.1 hi).1
  obtain ⟨z, hz, hv⟩ := h.get i _ (List.getElem?_eq_getElem hil)
  rw [hi] at hz
  cases hz
  exact leaf_ok hv (by simp only [List.all_eq_true] at hl; exact hl _ (List.getElem_mem hil))
theorem wr_length (l : List AV) (o : Nat) (cs : List AV) (h : o + cs.length ≤ l.length) : (wr l o cs).length = l.length := by
  unfold wr; simp; omega
/-- Some cells of a block are written. -/
theorem Inv.wrAt {W0 W : World} {φ : Phi} {H : AH} (h : Inv W0 φ H W) {b : Nat} {B : Blk} {p : Pl} (hb : H.blk b = some B) (hp : φ b = some p) {C : Array Value} {e : TypeId}
    (hC : W.heap[p.g]? = some (.cells C e (0, 0))) (o : Nat) {new : List AV} {news : List Value} (hv : VRs φ new news) (ho : o + new.length ≤ B.cells.length) :
    Inv W0 φ (H.set b ⟨wr B.cells o new, B.esz⟩) (W.setRow p.g (C.toList.take (p.base + o) ++ news ++ C.toList.drop (p.base + o + news.length)).toArray) := by
  obtain ⟨p0, hp0, k1, k2, k3, C0, e0, hC0, k4, k5⟩ := h.blks b B hb
  rw [hp] at hp0
  cases hp0
  rw [hC] at hC0
  cases hC0
  have hlen := hv.length
  refine h.write hb hp hC (by simp; omega) (by rw [wr_length _ _ _ (by omega)]; exact k3) fun q v hq => ?_
  unfold wr at hq
  simp only [List.getElem?_toArray] at hq ⊢
  simp only [List.getElem?_append, List.length_append, List.length_take, Array.length_toList] at hq ⊢
  have m1 : min o B.cells.length = o := by omega
  have m2 : min (p.base + o) C.size = p.base + o := by omega
  rw [m1] at hq
  rw [m2]
  by_cases c1 : q < o
  · rw [if_pos (by omega), if_pos c1, List.getElem?_take, if_pos c1] at hq
    rw [if_pos (by omega), if_pos (by omega), List.getElem?_take, if_pos (by omega), Array.getElem?_toList]
    exact k5 q v hq
  · by_cases c2 : q < o + new.length
    · rw [if_pos c2, if_neg c1] at hq
      rw [if_pos (by omega), if_neg (by omega), show p.base + q - (p.base + o) = q - o from by omega]
      exact hv.get _ _ hq
    · rw [if_neg c2, List.getElem?_drop] at hq
      rw [if_neg (by omega), List.getElem?_drop, Array.getElem?_toList, show p.base + o + news.length + (p.base + q - (p.base + o + news.length)) = p.base + q from by omega]
      refine k5 q v ?_
      rw [← hq]; congr 1; omega
/-- Cells of the machine's behind a block's that are not told yet. -/
theorem Inv.dead {W0 W : World} {φ : Phi} {H : AH} (h : Inv W0 φ H W) {b : Nat} {B : Blk} {p : Pl} (hb : H.blk b = some B) (hp : φ b = some p) (k : Nat) (hk : B.cells.length + k ≤ p.lim) :
    Inv W0 φ (H.set b ⟨B.cells ++ List.replicate k .dead, B.esz⟩) W := by
  obtain ⟨p0, hp0, k1, k2, k3, C, e, hC, k4, k5⟩ := h.blks b B hb
  rw [hp] at hp0
  cases hp0
  have := h.write hb hp hC rfl (cells := B.cells ++ List.replicate k .dead) (by simpa using hk) fun q v hq => ?_
  · rwa [setRow_self W p.g C e (0, 0) hC] at this
  · rw [List.getElem?_append] at hq
    split at hq
    · exact k5 q v hq
    · rename_i hge
      rw [List.getElem?_replicate] at hq
      split at hq
      · cases hq
        refine ⟨C[p.base + q]'(by omega), by simp, .dead _⟩
      · cases hq
end
section
/-! The calculus 'Aw', part 3: each operation, held against the machine. -/
open Go Go.RowKit
set_option linter.unusedVariables false
set_option linter.unusedSimpArgs false
set_option linter.unusedSectionVars false
set_option maxHeartbeats 1000000

def Good (W0 : World) (φ : Phi) (K : AV → AH → Prop) (y : Value) (W' : World) : Prop := ∃ v H' φ', VR φ' v y ∧ Inv W0 φ' H' W' ∧ Ext φ φ' ∧ K v H'
def OpOk (P : Program) (W0 : World) (φ : Phi) (K : AV → AH → Prop) (ρ : Operand → Value) (o : Oper) (W : World) : Prop :=
  (∃ y W', (execOp ρ o).run P W = .ok (.value y) W' ∧ Good W0 φ K y W') ∨ (∃ W', (execOp ρ o).run P W = .ok .skip W' ∧ Good W0 φ K undef W') ∨
  ∃ f args W', (execOp ρ o).run P W = .ok (.enter f args) W' ∧ Calls P f args W' fun e W'' => ∃ y, e = .returned y ∧ Good W0 φ K y W''

variable {P : Program} {W0 W : World} {φ : Phi} {H : AH} {K : AV → AH → Prop}

theorem tyi_run {t : TypeId} {i : TyI} (h : tyi P t = some i) : ∃ (d : TypeDesc) (j : TypeInfo) (z : Value), P.underlying t = some d ∧ P.info? t = some j ∧ j.zero = some z ∧
    i = ⟨isAggD d, j.size, j.bytes, z.cells.toList⟩ := by
  unfold tyi at h
  split at h
  · rename_i d j h1 h2
    cases hz : j.zero with
    | none => simp [hz] at h
    | some z =>
      simp only [hz, Option.map_some, Option.some.injEq] at h
      exact ⟨d, j, z, h1, h2, hz, h.symm⟩
  · cases h
theorem elt_run {t e : TypeId} (h : elt P t = some e) : P.underlying t = some (.slice e) := by
  unfold elt at h
  split at h
  · rename_i hu; cases h; exact hu
  · cases h
theorem isAgg_run {t : TypeId} {d : TypeDesc} (hd : P.underlying t = some d) (W : World) : (isAgg t).run P W = .ok (isAggD d) W := by
  unfold isAgg
  simp only [Sem.run_bind, run_underlying hd, Result.andThen_ok]
  cases d <;> rfl
theorem sizeOf_run {t : TypeId} {i : TypeInfo} (hi : P.info? t = some i) (W : World) : (sizeOf t).run P W = .ok i.size W := by
  simp [sizeOf, typeInfo, hi]
theorem zero_run {t : TypeId} {i : TypeInfo} {z : Value} (hi : P.info? t = some i) (hz : i.zero = some z) (W : World) : (zeroValue t).run P W = .ok z W := by
  simp [zeroValue, typeInfo, hi, hz]
theorem good_same (hI : Inv W0 φ H W) {v : AV} {y : Value} (hv : VR φ v y) (hk : K v H) : Good W0 φ K y W := ⟨v, H, φ, hv, hI, Ext.refl _, hk⟩

/-- A new block. -/
theorem good_new (hI : Inv W0 φ H W) {cells : List AV} {ys : List Value} (hv : VRs φ cells ys) (esz : Nat) (e : TypeId) {C : Array Value} (hC : C = ys.toArray) :
    Inv W0 (updφ φ H.nxt ⟨W.heap.size, 0, esz, C.size⟩) (H.new cells esz) { W with heap := W.heap.push (.cells C e) } ∧ Ext φ (updφ φ H.nxt ⟨W.heap.size, 0, esz, C.size⟩) := by
  subst hC
  refine hI.new esz (by simp [hv.length]) fun j v hj => ?_
  obtain ⟨y, hy, hv⟩ := hv.get j v hj
  exact ⟨y, by simpa using hy, hv⟩

theorem updφ_at (φ : Phi) (b : Nat) (p : Pl) : updφ φ b p b = some p := by simp [updφ]

theorem load_run (hI : Inv W0 φ H W) {t : TypeId} {i : TyI} (ht : tyi P t = some i) (ha : i.agg = true ∨ i.size = 1) {x : AV} {y : Value} (hx : VR φ x y) {cs : List AV} (hr : rdCells W0 H i.size x = some cs) :
    ∃ u, (Instr.loadAt t y).run P W = .ok u W ∧ VR φ (mkv i.agg cs) u := by
  obtain ⟨d, j, z, hd, hj, hz, rfl⟩ := tyi_run ht
  obtain ⟨a, ys, rfl, hv, hl, hc⟩ := hI.rd hx hr
  have hlen : ys.length = j.size := by rw [← hv.length, hl]
  have hld : (loadCells a j.size).run P W = .ok ys.toArray W := by
    rw [← hlen]
    exact run_loadCells_list W a ys hc
  simp only [Instr.loadAt, Instr.sureAddr, Sem.run_bind, Sem.run_pure, Result.andThen_ok, loadVar, isAgg_run hd]
  by_cases h : isAggD d = true
  · simp only [h, if_true, Sem.run_bind, sizeOf_run hj, Result.andThen_ok, hld, Sem.run_pure]
    exact ⟨_, rfl, .agg hv⟩
  · have h1 : j.size = 1 := by
      rcases ha with ha | ha
      · exact absurd ha h
      · exact ha
    simp only [Bool.not_eq_true] at h
    simp only [h, Bool.false_eq_true, if_false]
    match ys, hv, hlen with
    | [u], hv, _ =>
      cases hv with
      | cons hv1 hv2 =>
        rename_i a1 l1
        cases hv2
        have := hc 0 u (by simp)
        simp only [Addr.add_zero'] at this
        exact ⟨u, by simp [this], hv1⟩
    | [], hv, hl => simp [h1] at hl
    | _ :: _ :: _, hv, hl => simp [h1] at hl

theorem store_run (hI : Inv W0 φ H W) {t : TypeId} {i : TyI} (ht : tyi P t = some i) {b o : Nat} {y u : Value} {x : AV} (hy : VR φ (.ptr b o) y) (hx : VR φ x u) (hs : astore H i.size b o x K) :
    ∃ W', (Instr.storeAt t y u).run P W = .ok () W' ∧ Good W0 φ K undef W' := by
  obtain ⟨d, j, z, hd, hj, hz, rfl⟩ := tyi_run ht
  cases hy with
  | ptr hp =>
    rename_i p
    unfold astore at hs
    split at hs
    · rename_i B cs hB hcs
      obtain ⟨h1, h2, h3, h4⟩ := hs
      simp only at h1 h2
      have hv := cells_ok hx hcs
      have hlen := hv.length
      have hl2 : u.cells.size = cs.length := by rw [hlen, Array.length_toList]
      obtain ⟨p0, hp0, k1, k2, k3, C, e, hC, k4, k5⟩ := hI.blks b B hB
      rw [hp] at hp0
      cases hp0
      have hst := run_storeCells_at P p.g (p.base + o) e u.cells.toList 0 C W hC (by simp only [Nat.add_zero]; omega) (leafs_ok hv h3)
      simp only [Nat.add_zero] at hst
      refine ⟨W.setRow p.g (C.toList.take (p.base + o) ++ u.cells.toList ++ C.toList.drop (p.base + o + u.cells.toList.length)).toArray, ?_, .dead, H.set b ⟨wr B.cells o cs, B.esz⟩, φ, .dead _, ?_, Ext.refl _, h4⟩
      · have hsz : u.cells.size = j.size := by rw [← h1, hlen, Array.length_toList]
        simp only [Instr.storeAt, Instr.sureAddr, Sem.run_bind, Sem.run_pure, Result.andThen_ok, storeVar, sizeOf_run hj]
        simp [hsz, hst]
      · refine hI.write hB hp hC (by simp; omega) (by rw [wr_length _ _ _ (by omega)]; exact k3) fun q v hq => ?_
        unfold wr at hq
        rw [List.getElem?_append, List.getElem?_append] at hq
        simp only [List.length_append, List.length_take, List.getElem?_toArray] at hq ⊢
        rw [List.getElem?_append, List.getElem?_append]
        simp only [List.length_append, List.length_take, Array.length_toList]
        have m1 : min o B.cells.length = o := by omega
        have m2 : min (p.base + o) C.size = p.base + o := by omega
        rw [m1] at hq
        rw [m2]
        rw [hl2]
        by_cases c1 : q < o
        · rw [if_pos (by omega), if_pos c1, List.getElem?_take, if_pos c1] at hq
          rw [if_pos (by omega), if_pos (by omega), List.getElem?_take, if_pos (by omega), Array.getElem?_toList]
          exact k5 q v hq
        · by_cases c2 : q < o + cs.length
          · rw [if_pos c2, if_neg c1] at hq
            rw [if_pos (by omega), if_neg (by omega), show p.base + q - (p.base + o) = q - o from by omega]
            exact hv.get _ _ hq
          · rw [if_neg c2, List.getElem?_drop] at hq
            rw [if_neg (by omega), List.getElem?_drop, Array.getElem?_toList, show p.base + o + cs.length + (p.base + q - (p.base + o + cs.length)) = p.base + (o + cs.length + (q - (o + cs.length))) from by omega]
            exact k5 _ v hq
    · exact hs.elim

/-- What append reads: the new cells. -/
theorem firstCells_run (hI : Inv W0 φ H W) {x : AV} {y : Value} (hx : VR φ x y) {s n : Nat} {cs : List AV} (hr : slCells W0 H s n x = some cs) :
    ∃ (A : Option Addr) (m c : Nat) (ys : List Value), y = .slice A m c ∧ VRs φ cs ys ∧ cs.length = n * s ∧ n ≤ m ∧ ∀ n', (Builtin.firstCells s n (.slice A m c)).run P { W with drawn := n' } = .ok ys.toArray { W with drawn := n' } := by
  obtain ⟨A, m, c, ys, rfl, hv, hl, hn, h0, hc⟩ := hI.slc hx hr
  refine ⟨A, m, c, ys, rfl, hv, hl, hn, fun n' => ?_⟩
  have hlen : ys.length = n * s := by rw [← hv.length, hl]
  cases A with
  | none =>
    have : n = 0 := h0 rfl
    subst this
    have : ys = [] := List.eq_nil_of_length_eq_zero (by simpa using hlen)
    subst this
    simp [Builtin.firstCells]
  | some a =>
    have := run_loadCells_list (P := P) { W with drawn := n' } a ys (hc a rfl)
    rw [hlen] at this
    simp only [Builtin.firstCells, this]


section
variable (t t' ty e e' : TypeId) (i : TypeInfo) (z : Value) (ht : P.underlying t = some (.slice e)) (ht' : P.underlying t' = some (.slice e')) (hi : P.info? e = some i) (hz : i.zero = some z)
  (x : Value) (n : Nat) (news : Array Value) (hx : (Builtin.lenOf x) = pure n)
  (hf : ∀ dr, (Builtin.firstCells i.size n x).run P { W with drawn := dr } = .ok news { W with drawn := dr })
include ht ht' hi hz hx hf
theorem app_grow (b : Option Addr) (sLen sCap : Nat) (olds : Array Value) (hfo : ∀ dr, (Builtin.firstCells i.size sLen (.slice b sLen sCap)).run P { W with drawn := dr } = .ok olds { W with drawn := dr })
    (hg : sCap < sLen + n) (h63 : ((sLen + n : Nat) : Int) ≤ 9223372036854775807) (hfit : Builtin.nextslicecap (sLen + n) sCap * i.bytes ≤ 281474976710656) :
    (Builtin.append_ #[t, t'] ty #[.slice b sLen sCap, x]).run P W =
      .ok (.slice (some ⟨W.heap.size, 0, none⟩) (sLen + n) (grownCap W (sLen + n) sCap e))
        { W with drawn := W.drawn + 1, heap := W.heap.push (.cells (olds ++ news ++ Builtin.zeroCells z.cells (grownCap W (sLen + n) sCap e - (sLen + n))) e) } := by
  have hn : ¬ (sLen + n ≤ sCap) := by omega
  have h63' : ¬ (9223372036854775807 < ((sLen : Int) + (n : Int))) := by omega
  have h48' : ¬ (281474976710656 < Builtin.nextslicecap (sLen + n) sCap * i.bytes) := by omega
  have hf1 : (Builtin.firstCells i.size n x).run P W.drew = .ok news W.drew := hf (W.drawn + 1)
  have hf2 : (Builtin.firstCells i.size sLen (.slice b sLen sCap)).run P W.drew = .ok olds W.drew := hfo (W.drawn + 1)
  simp [Builtin.append_, run_underlying ht, run_underlying ht', sizeOf, typeInfo, zeroValue, hi, hz, hx, hn, h63', h48', Question.forced, hf1, hf2, newRow, grownCap]
  rfl
theorem app_room (g off sLen sCap : Nat) (cur : Array Value) (et : TypeId) (hg : W.heap[g]? = some (.cells cur et (0, 0))) (h1 : ∀ u ∈ news.toList, u.oneCell' = true)
    (hroom : sLen + n ≤ sCap) (hfit : off + sLen * i.size + news.size ≤ cur.size) :
    (Builtin.append_ #[t, t'] ty #[.slice (some ⟨g, off, none⟩) sLen sCap, x]).run P W =
      .ok (.slice (some ⟨g, off, none⟩) (sLen + n) sCap) (W.setRow g (cur.toList.take (off + sLen * i.size) ++ news.toList ++ cur.toList.drop (off + sLen * i.size + news.size)).toArray) := by
  have hst := run_storeCells_at P g (off + sLen * i.size) et news.toList 0 cur W hg (by simpa using hfit) h1
  have hf1 : (Builtin.firstCells i.size n x).run P W = .ok news W := hf W.drawn
  simp only [Nat.add_zero, Array.length_toList] at hst
  simp [Builtin.append_, run_underlying ht, run_underlying ht', sizeOf, typeInfo, hi, hx, hroom, hf1, Addr.add_lit, hst]
/-- Nothing to append, and no room needed: the slice itself. -/
theorem app_zero (b : Option Addr) (sLen sCap : Nat) (h0 : n = 0) (hn : news = #[]) (hc : sLen ≤ sCap) :
    (Builtin.append_ #[t, t'] ty #[.slice b sLen sCap, x]).run P W = .ok (.slice b sLen sCap) W := by
  subst h0
  subst hn
  have hf1 : (Builtin.firstCells i.size 0 x).run P W = .ok #[] W := hf W.drawn
  cases b <;> simp [Builtin.append_, run_underlying ht, run_underlying ht', sizeOf, typeInfo, hi, hx, hc, hf1, storeCells]
end

theorem append_run (hI : Inv W0 φ H W) {e t t' : TypeId} (ht : elt P t = some e) {e' : TypeId} (ht' : elt P t' = some e') {d s : AV} {yd ys : Value} (hd : VR φ d yd) (hs : VR φ s ys) (ty : TypeId) (ha : aappend P W0 H e d s K) :
    ∃ y W', (Builtin.append_ #[t, t'] ty #[yd, ys]).run P W = .ok y W' ∧ Good W0 φ K y W' := by
  unfold aappend at ha
  split at ha
  case h_2 => exact ha.elim
  rename_i i m hi hm
  split at ha
  case h_2 => exact ha.elim
  rename_i new hnew
  obtain ⟨hsz, hby, hzl, hleaf, ha⟩ := ha
  obtain ⟨D, j, z, hD, hj, hz, rfl⟩ := tyi_run hi
  simp only at hsz hby hzl ha hnew
  obtain ⟨A, mm, c, news, rfl, hnv, hnl, hmm, hfc⟩ := firstCells_run (P := P) hI hs hnew
  have hmm' : mm = m := by
    cases hs <;> simp_all [lenA, slLen]
  subst hmm'
  have hnews : news.length = mm * j.size := by rw [← hnv.length, hnl]
  have hzc : z.cells.size = j.size := by rw [← hzl, Array.length_toList]
  have hlen : Builtin.lenOf (.slice A mm c) = pure mm := rfl
  -- what a new row is
  have fresh : ∀ (H1 : AH) (old : List AV) (oldv : List Value), Inv W0 φ H1 W → VRs φ old oldv → ∀ (n cap : Nat), n + mm ≤ cap → old.length = n * j.size → ∀ (dr : Nat),
      K (.sl H1.nxt 0 (n + mm)) (H1.new (old ++ new) j.size) → Good W0 φ K (.slice (some ⟨W.heap.size, 0, none⟩) (n + mm) cap)
        { W with drawn := dr, heap := W.heap.push (.cells (oldv.toArray ++ news.toArray ++ Builtin.zeroCells z.cells (cap - (n + mm))) e) } := by
    intro H1 old oldv hI1 hov n cap hcap hol dr hk
    have hIdr := hI1.drawn dr
    have hcs : (oldv.toArray ++ news.toArray ++ Builtin.zeroCells z.cells (cap - (n + mm))).size = cap * j.size := by
      have hol' : oldv.length = n * j.size := by rw [← hov.length, hol]
      simp only [Array.size_append, List.size_toArray, size_zeroCells, hzc, hnews, hol', ← Nat.add_mul]
      congr 1
      omega
    have hnew2 := hIdr.new (cells := old ++ new) j.size (C := oldv.toArray ++ news.toArray ++ Builtin.zeroCells z.cells (cap - (n + mm))) (e := e)
      (by rw [hcs, List.length_append, hol, hnl, ← Nat.add_mul]; exact Nat.mul_le_mul_right _ hcap)
      (fun q v hq => by
        obtain ⟨y, hy, hv⟩ := (hov.append hnv).get q v hq
        refine ⟨y, ?_, hv⟩
        rw [← Array.getElem?_toList, Array.toList_append, Array.toList_append, List.getElem?_append_left]
        · exact hy
        · have := (List.getElem?_eq_some_iff.1 hy).1
          simpa using this)
    exact ⟨_, _, _, .sl (updφ_at _ _ _) hcap (.inr ⟨by simp, by simp only [hcs]; omega⟩), hnew2.1, hnew2.2, hk⟩
  have nilc : ∀ (A' : Option Addr) (X : AV), VR φ X (.slice A' 0 0) → mm * j.bytes ≤ 140737488355328 → (if mm = 0 then K X H else K (.sl H.nxt 0 mm) (H.new new j.size)) →
      ∃ y W', (Builtin.append_ #[t, t'] ty #[.slice A' 0 0, .slice A mm c]).run P W = .ok y W' ∧ Good W0 φ K y W' := by
    intro A' X hX hlim ha
    by_cases hm0 : mm = 0
    · rw [if_pos hm0] at ha
      have h0 : news = [] := List.eq_nil_of_length_eq_zero (by rw [hnews, hm0, Nat.zero_mul])
      exact ⟨_, _, app_zero t t' ty e e' j z (elt_run ht) (elt_run ht') hj hz _ mm news.toArray hlen hfc A' 0 0 hm0 (by rw [h0]) (Nat.le_refl _), good_same hI hX ha⟩
    · rw [if_neg hm0] at ha
      have hgrow := growslice_fits (need := mm) (old := 0) (bytes := j.bytes) (by omega) hlim
      have hmb : mm ≤ mm * j.bytes := Nat.le_mul_of_pos_right _ hby
      have hg := fresh H [] [] hI .nil 0 (grownCap W (0 + mm) 0 e) (grownCap_ge W (0 + mm) 0 e) (by simp) (W.drawn + 1) (by simpa using ha)
      exact ⟨_, _, app_grow t t' ty e e' j z (elt_run ht) (elt_run ht') hj hz _ mm news.toArray hlen hfc A' 0 0 #[] (fun dr => by cases A' <;> simp [Builtin.firstCells, loadCells, loadCellsFrom]) (by omega) (by omega) (by simpa using hgrow), hg⟩
  split at ha
  · -- nil
    obtain ⟨hlim, ha⟩ := ha
    have := hd
    cases this
    exact nilc _ _ hd hlim ha
  · obtain ⟨hlim, ha⟩ := ha
    have := hd
    cases this
    exact nilc _ _ hd hlim ha
  · -- a slice of a block of ours whose capacity is told
    rename_i b o n c'
    split at ha
    case h_2 => exact ha.elim
    rename_i B hB
    obtain ⟨he, hoc, hnc, hlim, ha⟩ := ha
    have hd' := hd
    cases hd' with
    | slc hp hnc2 hcap =>
      rename_i ad p
      have hon : o + n * j.size ≤ B.cells.length := Nat.le_trans (Nat.add_le_add_left (Nat.mul_le_mul_right _ hnc) _) hoc
      obtain ⟨p0, ovs, hp0, hov, hoc2⟩ := hI.reads hB o (n * j.size) hon
      rw [hp] at hp0
      cases hp0
      obtain ⟨p0, hp0, k1, k2, k3, C, et, hC, k4, k5⟩ := hI.blks b B hB
      rw [hp] at hp0
      cases hp0
      have hol : ((B.cells.drop o).take (n * j.size)).length = n * j.size := by simp; omega
      have hovl : ovs.length = n * j.size := by rw [← hov.length, hol]
      by_cases hroom : n + mm ≤ c'
      · rw [if_pos hroom] at ha
        rcases hcap with hc0 | ⟨rfl, hcl⟩
        · have hm0 : mm = 0 := by omega
          have hn0 : n = 0 := by omega
          subst hm0 hn0 hc0
          have h0 : news = [] := List.eq_nil_of_length_eq_zero (by rw [hnews, Nat.zero_mul])
          have hnew0 : new = [] := List.eq_nil_of_length_eq_zero (by rw [hnl, Nat.zero_mul])
          subst hnew0
          have hw := hI.wrAt hB hp hC (o + 0 * j.size) (.nil) (by simp; omega)
          simp only [List.append_nil, List.length_nil, Nat.add_zero, List.take_append_drop, Array.toArray_toList] at hw
          rw [setRow_self W p.g C et (0, 0) hC] at hw
          exact ⟨_, _, app_zero t t' ty e e' j z (elt_run ht) (elt_run ht') hj hz _ 0 news.toArray hlen hfc (some ad) 0 0 rfl (by rw [h0]) (Nat.le_refl _), _, _, _, hd, hw, Ext.refl _, ha⟩
        · have hnm : n * j.size + mm * j.size ≤ c' * j.size := by rw [← Nat.add_mul]; exact Nat.mul_le_mul_right _ hroom
          have hes := k2
          rw [he] at hes
          rw [← hes] at hcl
          have hr := app_room t t' ty e e' j z (elt_run ht) (elt_run ht') hj hz _ mm news.toArray hlen hfc p.g (p.base + o) n c' C et hC (fun u hu => leafs_ok hnv hleaf u (by simpa using hu)) hroom (by simp only [List.size_toArray, hnews]; omega)
          have hw := hI.wrAt hB hp hC (o + n * j.size) hnv (by omega)
          simp only [List.size_toArray, Nat.add_assoc] at hr hw
          exact ⟨_, _, hr, _, _, _, .slc hp hroom (.inr ⟨rfl, by rw [← hes]; exact hcl⟩), hw, Ext.refl _, ha⟩
      · rw [if_neg hroom] at ha
        have hgrow := growslice_fits (need := n + mm) (old := c') (bytes := j.bytes) (by omega) hlim
        have hmb : n + mm ≤ (n + mm) * j.bytes := Nat.le_mul_of_pos_right _ hby
        have hg := fresh H _ ovs hI hov n (grownCap W (n + mm) c' e) (grownCap_ge W (n + mm) c' e) hol (W.drawn + 1) ha
        refine ⟨_, _, app_grow t t' ty e e' j z (elt_run ht) (elt_run ht') hj hz _ mm news.toArray hlen hfc (some ad) n c' ovs.toArray (fun dr => ?_) (by omega) (by omega) hgrow, hg⟩
        rcases hcap with hc0 | ⟨rfl, hcl⟩
        · have hn0 : n = 0 := by omega
          subst hn0
          have : ovs = [] := List.eq_nil_of_length_eq_zero (by rw [hovl, Nat.zero_mul])
          subst this
          simp [Builtin.firstCells, loadCells, loadCellsFrom]
        · have := run_loadCells_list (P := P) { W with drawn := dr } ⟨p.g, p.base + o, none⟩ ovs (fun q u hq => by rw [Addr.add_lit]; exact hoc2 q u hq)
          rw [hovl] at this
          simp only [Builtin.firstCells, this]
  · -- a slice of a block of ours
    rename_i b o n
    split at ha
    case h_2 => exact ha.elim
    rename_i B hB
    obtain ⟨he, hon, hlim, ha⟩ := ha
    cases hd with
    | sl hp hnc hcap =>
      rename_i c' ad p
      obtain ⟨p0, ovs, hp0, hov, hoc⟩ := hI.reads hB o (n * j.size) hon
      rw [hp] at hp0
      cases hp0
      obtain ⟨p0, hp0, k1, k2, k3, C, et, hC, k4, k5⟩ := hI.blks b B hB
      rw [hp] at hp0
      cases hp0
      have hol : ((B.cells.drop o).take (n * j.size)).length = n * j.size := by simp; omega
      have hovl : ovs.length = n * j.size := by rw [← hov.length, hol]
      by_cases hroom : n + mm ≤ c'
      · rcases hcap with hc0 | ⟨rfl, hcl⟩
        · -- no room at all, nothing to append
          have hm0 : mm = 0 := by omega
          have hn0 : n = 0 := by omega
          subst hm0
          subst hn0
          subst hc0
          have h0 : news = [] := List.eq_nil_of_length_eq_zero (by rw [hnews, Nat.zero_mul])
          have hnew0 : new = [] := List.eq_nil_of_length_eq_zero (by rw [hnl, Nat.zero_mul])
          have hren := hI.rename (C' := C) hB hp hC rfl (cells := []) 0 (by simp) (fun q v hq => by simp at hq)
          rw [setRow_self W p.g C et (0, 0) hC] at hren
          rw [hnew0] at ha
          simp only [Nat.zero_mul, List.take_zero, List.append_nil] at ha
          rw [← k2, he] at hren
          exact ⟨_, _, app_zero t t' ty e e' j z (elt_run ht) (elt_run ht') hj hz _ 0 news.toArray hlen hfc (some ad) 0 0 rfl (by rw [h0]) (Nat.le_refl _),
            _, _, _, .sl (updφ_at _ _ _) (Nat.le_refl _) (.inl rfl), hren.1, hren.2, ha⟩
        · have hnm : n * j.size + mm * j.size ≤ c' * j.size := by rw [← Nat.add_mul]; exact Nat.mul_le_mul_right _ hroom
          rw [← k2, he] at hcl
          have hr := app_room t t' ty e e' j z (elt_run ht) (elt_run ht') hj hz _ mm news.toArray hlen hfc p.g (p.base + o) n c' C et hC (fun u hu => leafs_ok hnv hleaf u (by simpa using hu)) hroom (by simp only [List.size_toArray, hnews]; omega)
          have hren := hI.rename (C' := (C.toList.take (p.base + o + n * j.size) ++ news.toArray.toList ++ C.toList.drop (p.base + o + n * j.size + news.toArray.size)).toArray) hB hp hC
            (by simp; omega) (cells := (B.cells.drop o).take (n * j.size) ++ new) o (by rw [List.length_append, hol, hnl]; omega) (fun q v hq => by
              simp only [List.getElem?_toArray]
              rw [List.getElem?_append] at hq
              rw [hol] at hq
              have m2 : min (p.base + o + n * j.size) C.size = p.base + o + n * j.size := by omega
              rw [List.getElem?_append, List.getElem?_append]
              simp only [List.length_append, List.length_take, Array.length_toList, m2, hnews]
              by_cases c1 : q < n * j.size
              · rw [if_pos c1, List.getElem?_take, if_pos c1, List.getElem?_drop] at hq
                rw [if_pos (by omega), if_pos (by omega), List.getElem?_take, if_pos (by omega), Array.getElem?_toList, Nat.add_assoc]
                exact k5 _ v hq
              · rw [if_neg c1] at hq
                have hqn := (List.getElem?_eq_some_iff.1 hq).1
                rw [hnl] at hqn
                rw [if_pos (by omega), if_neg (by omega), show p.base + o + q - (p.base + o + n * j.size) = q - n * j.size from by omega]
                exact hnv.get _ _ hq)
          rw [← k2, he] at hren
          exact ⟨_, _, hr, _, _, _, .sl (updφ_at _ _ _) hroom (.inr ⟨by simp, by simp only; omega⟩), hren.1, hren.2, ha⟩
      · have hgrow := growslice_fits (need := n + mm) (old := c') (bytes := j.bytes) (by omega) hlim
        have hmb : n + mm ≤ (n + mm) * j.bytes := Nat.le_mul_of_pos_right _ hby
        have hg := fresh (H.kill b) _ ovs (hI.kill b) hov n (grownCap W (n + mm) c' e) (grownCap_ge W (n + mm) c' e) hol (W.drawn + 1) ha
        refine ⟨_, _, app_grow t t' ty e e' j z (elt_run ht) (elt_run ht') hj hz _ mm news.toArray hlen hfc (some ad) n c' ovs.toArray (fun dr => ?_) (by omega) (by omega) hgrow, hg⟩
        rcases hcap with hc0 | ⟨rfl, hcl⟩
        · have hn0 : n = 0 := by omega
          subst hn0
          have : ovs = [] := List.eq_nil_of_length_eq_zero (by rw [hovl, Nat.zero_mul])
          subst this
          simp [Builtin.firstCells, loadCells, loadCellsFrom]
        · have := run_loadCells_list (P := P) { W with drawn := dr } ⟨p.g, p.base + o, none⟩ ovs (fun q u hq => by rw [Addr.add_lit]; exact hoc q u hq)
          rw [hovl] at this
          simp only [Builtin.firstCells, this]
  · exact ha.elim
end
section
/-! The calculus 'Aw', part 4: each operation, held against the machine; the theorem of one operation. -/
open Go Go.RowKit
set_option linter.unusedVariables false
set_option linter.unusedSimpArgs false
set_option linter.unusedSectionVars false
variable {P : Program} {W0 W : World} {φ : Phi} {H : AH} {K : AV → AH → Prop}

theorem str_run {t : TypeId} (h : isStr P t = true) : P.underlying t = some .string := by
  unfold isStr at h
  split at h
  · assumption
  · cases h
theorem intKd_run {t : TypeId} {k : IntKind} (h : intKd P t = some k) : P.underlying t = some (.int k) := by
  unfold intKd at h
  split at h
  · rename_i hu; cases h; exact hu
  · cases h
theorem fldt_run {t : TypeId} {f off : Nat} {ft : TypeId} (h : fldt P t f = some (off, ft)) : ∃ fs g, P.underlying t = some (.struct fs) ∧ fs[f]? = some g ∧ g.offset = off ∧ g.type = ft := by
  unfold fldt at h
  split at h
  · rename_i fs hu
    simp only [Option.map_eq_some_iff, Prod.mk.injEq] at h
    obtain ⟨g, hg, h1, h2⟩ := h
    exact ⟨fs, g, hu, hg, h1, h2⟩
  · cases h

/-- Operators on plain values. -/
theorem abin_run {op : BinOp} {a b r : Value} (h : abin op a b = some r) (t : TypeId) (x y : Operand) (W : World) :
    (do eqGuard op t x y a b; binOp op t a b : Sem Value).run P W = .ok r W := by
  unfold abin at h
  split at h
  · rename_i k a k' b
    simp only [Sem.run_bind, eqGuard_at_int, Sem.run_pure, Result.andThen_ok]
    cases op <;> simp only at h
    case shl => split at h <;> cases h; rename_i hb; simp [binOp, Op.shift, Int.not_lt.2 hb]
    case shr => split at h <;> cases h; rename_i hb; simp [binOp, Op.shift, Int.not_lt.2 hb]
    case quo => split at h <;> cases h; rename_i hb; obtain ⟨rfl, hb⟩ := hb; simp [binOp, Op.intDiv, hb]
    case rem => split at h <;> cases h; rename_i hb; obtain ⟨rfl, hb⟩ := hb; simp [binOp, Op.intDiv, hb]
    all_goals (split at h <;> cases h; rename_i hb; subst hb; simp [binOp, Op.intArith, Op.intCmp, intBits_and, intBits_or, intBits_xor, intBits_andNot])
  · rename_i a b
    simp only [Sem.run_bind, eqGuard_at_string, Sem.run_pure, Result.andThen_ok]
    cases op <;> simp only at h
    case add =>
      split at h <;> cases h
      rename_i hb
      have : ¬ ((9223372036854775807 : Int) < (a.size : Int) + (b.size : Int)) := by omega
      simp [binOp, Op.stringOp, this]
    all_goals first | (cases h; simp [binOp, Op.stringOp]; done) | cases h
  · cases h
theorem aun_run {op : UnOp} {a r : Value} (h : aun op a = some r) (W : World) : (Op.unary op a).run P W = .ok r W := by
  unfold aun at h
  split at h
  · cases op <;> simp only at h <;> first | (cases h; simp [Op.unary, Op.intArith]; done) | cases h
  · cases op <;> simp only at h <;> first | (cases h; simp [Op.unary]; done) | cases h
  · cases h

theorem fill_run {φ : Phi} (place : Nat → Option (Nat × Nat)) (pl : List (Nat × Nat)) (hp : ∀ i, place i = pl[i]?) :
    ∀ (ps : List (Nat × AV)) (qs : List (Nat × Value)) (cs out : List AV) (ys : List Value), ps.map (·.1) = qs.map (·.1) → VRs φ (ps.map (·.2)) (qs.map (·.2)) → VRs φ cs ys → fillA pl cs ps = some out →
      ∃ zs, Instr.fill place ys.toArray qs = some zs.toArray ∧ VRs φ out zs := by
  intro ps
  induction ps with
  | nil =>
    intro qs cs out ys h1 h2 h3 h4
    cases qs with
    | nil => simp [fillA] at h4; subst h4; exact ⟨ys, rfl, h3⟩
    | cons q qs => simp at h1
  | cons p ps ih =>
    intro qs cs out ys h1 h2 h3 h4
    cases qs with
    | nil => simp at h1
    | cons q qs =>
      obtain ⟨i, x⟩ := p
      obtain ⟨i', y⟩ := q
      simp only [List.map_cons, List.cons.injEq] at h1
      obtain ⟨rfl, h1⟩ := h1
      simp only [List.map_cons] at h2
      cases h2 with
      | cons hx h2 =>
        simp only [fillA] at h4
        split at h4
        case h_2 => cases h4
        rename_i off size xs hpl hxs
        split at h4
        case isFalse => cases h4
        rename_i hsz
        obtain ⟨hs1, hs2⟩ := hsz
        have hv := cells_ok hx hxs
        have hl := hv.length
        have hl3 := h3.length
        have hys : y.cells.size = size := by rw [← Array.length_toList, ← hl, hs1]
        have hstep : y.cells.zipIdx.foldl (fun cs (c, j) => cs.setIfInBounds (off + j) c) ys.toArray = (ys.take off ++ y.cells.toList ++ ys.drop (off + y.cells.toList.length)).toArray := by
          rw [← Array.foldl_toList, Array.toList_zipIdx]
          have key : ∀ (l : List Value) (j : Nat) (zs : List Value), off + j + l.length ≤ zs.length →
              (l.zipIdx j).foldl (fun cs (c, j) => cs.setIfInBounds (off + j) c) zs.toArray = (zs.take (off + j) ++ l ++ zs.drop (off + j + l.length)).toArray := by
            intro l
            induction l with
            | nil => intro j zs h; simp
            | cons c l ih =>
              intro j zs h
              simp only [List.zipIdx_cons, List.foldl_cons, List.setIfInBounds_toArray]
              rw [ih (j + 1) _ (by simp at h ⊢; omega)]
              congr 1
              apply List.ext_getElem?
              intro m
              simp only [List.length_cons] at h
              simp only [List.getElem?_append, List.length_append, List.length_take, List.length_set, List.length_cons, List.getElem?_take, List.getElem?_drop, List.getElem?_set, List.getElem?_cons]
              have e1 : min (off + (j + 1)) zs.length = off + j + 1 := by omega
              have e2 : min (off + j) zs.length = off + j := by omega
              rw [e1, e2]
              by_cases c1 : m < off + j
              · rw [if_pos (by omega), if_pos (by omega), if_pos (by omega), if_neg (by omega), if_pos (by omega), if_pos (by omega), if_pos c1]
              · by_cases c2 : m = off + j
                · subst c2
                  rw [if_pos (by omega), if_pos (by omega), if_pos (by omega), if_pos rfl, if_pos (by omega), if_pos (by omega), if_neg (by omega), if_pos (by omega)]
                · by_cases c3 : m < off + j + 1 + l.length
                  · rw [if_pos (by omega), if_neg (by omega), if_pos (by omega), if_neg (by omega), if_neg (by omega), show m - (off + j + 1) = m - (off + j) - 1 from by omega]
                  · rw [if_neg (by omega), if_neg (by omega), if_neg (by omega)]
                    try (congr 1; omega)
          simpa using key y.cells.toList 0 ys (by simp; omega)
        obtain ⟨zs, hz1, hz2⟩ := ih qs _ out (ys.take off ++ y.cells.toList ++ ys.drop (off + y.cells.toList.length)) h1 h2 (by
          unfold wr
          rw [hl]
          exact ((h3.take off).append hv).append (h3.drop _)) h4
        refine ⟨zs, ?_, hz2⟩
        simp only [Instr.fill]
        rw [hp, hpl]
        simp only
        rw [if_neg (by simp; omega), hstep]
        exact hz1

theorem fillS_eq (s n : Nat) (pl : List (Nat × Nat)) (hpl : ∀ i, i < n → pl[i]? = some (i * s, s)) :
    ∀ (ps : List (Nat × AV)) (cs out : List AV), cs.length = n * s → 0 < s → fillS s cs ps = some out → fillA pl cs ps = some out := by
  intro ps
  induction ps with
  | nil => intro cs out _ _ h; exact h
  | cons p ps ih =>
    intro cs out hl hs h
    obtain ⟨i, x⟩ := p
    simp only [fillS] at h
    simp only [fillA]
    split at h
    case h_2 => cases h
    rename_i xs hxs
    split at h
    case isFalse => cases h
    rename_i hc
    have hi : i < n := by
      rcases Nat.lt_or_ge i n with h1 | h1
      · exact h1
      · have : n * s ≤ i * s := Nat.mul_le_mul_right _ h1
        omega
    rw [hpl i hi, hxs]
    simp only
    rw [if_pos hc]
    exact ih _ _ (by rw [wr_length _ _ _ (by omega)]; exact hl) hs h

theorem zeros_list (z : Array Value) (n s : Nat) (hs : z.size = s) : ((Array.range (n * s)).map (z[· % z.size]!)).toList = (List.replicate n z.toList).flatten := by
  subst hs
  apply List.ext_getElem?
  intro i
  by_cases h : i < n * z.size
  · have hz : 0 < z.size := by
      rcases Nat.eq_zero_or_pos z.size with h0 | h0
      · rw [h0] at h; simp at h
      · exact h0
    have key : ∀ (n i : Nat), i < n * z.size → (List.replicate n z.toList).flatten[i]? = some z[i % z.size]! := by
      intro n
      induction n with
      | zero => intro i h; simp at h
      | succ n ih =>
        intro i h
        rw [List.replicate_succ, List.flatten_cons, List.getElem?_append]
        simp only [Array.length_toList]
        by_cases hi : i < z.size
        · rw [if_pos hi, Nat.mod_eq_of_lt hi]
          simp [hi]
        · rw [if_neg hi, ih (i - z.size) (by rw [Nat.add_mul] at h; omega)]
          congr 2
          rw [← Nat.mod_eq_sub_mod (by omega)]
    rw [key n i h]
    simp [h]
  · rw [List.getElem?_eq_none (by simpa using h), List.getElem?_eq_none]
    have : ∀ n, (List.replicate n z.toList).flatten.length = n * z.size := by
      intro n
      induction n with
      | zero => simp
      | succ n ih => rw [List.replicate_succ, List.flatten_cons, List.length_append, ih, Array.length_toList, Nat.add_mul]; omega
    rw [this]; omega
theorem zerosA_ok {φ : Phi} (z : List Value) (n : Nat) : VRs φ (zerosA z n) (List.replicate n z).flatten := by
  unfold zerosA
  induction n with
  | zero => exact .nil
  | succ n ih => rw [List.replicate_succ, List.replicate_succ, List.flatten_cons, List.flatten_cons]; exact (VRs.vs z).append ih
theorem zerosA_length (z : List Value) (n : Nat) : (zerosA z n).length = n * z.length := by
  unfold zerosA
  induction n with
  | zero => simp
  | succ n ih => rw [List.replicate_succ, List.flatten_cons, List.length_append, ih, List.length_map, Nat.add_mul]; omega

theorem places_run {t : TypeId} {pl : List (Nat × Nat)} (h : places P t = some pl) : ∃ fs, P.underlying t = some (.struct fs) ∧ ∀ W, (fs.mapM fun f => (do pure (f.offset, ← sizeOf f.type) : Sem (Nat × Nat))).run P W = .ok pl.toArray W := by
  unfold places at h
  split at h
  case h_2 => cases h
  rename_i fs hu
  refine ⟨fs, hu, fun W => ?_⟩
  have key : ∀ (l : List Field) (pl : List (Nat × Nat)), l.mapM (fun f => (P.info? f.type).map fun i => (f.offset, i.size)) = some pl → (l.mapM fun f => (do pure (f.offset, ← sizeOf f.type) : Sem (Nat × Nat))).run P W = .ok pl W := by
    intro l
    induction l with
    | nil => intro pl h; simp at h; subst h; rfl
    | cons f l ih =>
      intro pl h
      simp only [List.mapM_cons] at h ⊢
      cases h1 : P.info? f.type with
      | none => simp [h1] at h
      | some i =>
        cases h2 : l.mapM (fun f => (P.info? f.type).map fun i => (f.offset, i.size)) with
        | none => simp [h1, h2] at h
        | some xs =>
          simp [h1, h2] at h
          subst h
          simp only [Sem.run_bind, sizeOf_run h1, Result.andThen_ok, Sem.run_pure, ih xs h2]
  rw [Array.mapM_eq_mapM_toList]
  simp only [Sem.run_map, key fs.toList pl h, Result.andThen_ok]

theorem fillS_run {φ : Phi} (s : Nat) (ps : List (Nat × AV)) (qs : List (Nat × Value)) (cs out : List AV) (ys : List Value) (g1 : ps.map (·.1) = qs.map (·.1)) (g2 : VRs φ (ps.map (·.2)) (qs.map (·.2))) (g3 : VRs φ cs ys) (g4 : fillS s cs ps = some out) :
    ∃ zs, Instr.fill (fun i => some (i * s, s)) ys.toArray qs = some zs.toArray ∧ VRs φ out zs ∧ out.length = cs.length := by
  -- each index is below a bound of its own
  let n := (ps.map (·.1)).foldr max 0 + 1
  have hb : ∀ p ∈ ps, p.1 < n := by
    have : ∀ (l : List Nat) (x : Nat), x ∈ l → x ≤ l.foldr max 0 := by
      intro l
      induction l with
      | nil => intro x hx; cases hx
      | cons a l ih =>
        intro x hx
        rcases List.mem_cons.1 hx with rfl | hx
        · simp; omega
        · have := ih x hx
          simp only [List.foldr_cons]; omega
    intro p hp
    have := this (ps.map (·.1)) p.1 (List.mem_map_of_mem hp)
    omega
  have pl : ∃ pl : List (Nat × Nat), ∀ i, i < n → pl[i]? = some (i * s, s) := ⟨(List.range n).map fun i => (i * s, s), fun i hi => by simp [hi]⟩
  clear_value n
  obtain ⟨pl, hpl⟩ := pl
  induction ps generalizing qs cs ys with
  | nil =>
    cases qs with
    | nil => simp [fillS] at g4; subst g4; exact ⟨ys, rfl, g3, rfl⟩
    | cons q qs => simp at g1
  | cons p ps ih =>
    cases qs with
    | nil => simp at g1
    | cons q qs =>
      obtain ⟨i, x⟩ := p
      obtain ⟨i', y⟩ := q
      simp only [List.map_cons, List.cons.injEq] at g1
      obtain ⟨rfl, g1⟩ := g1
      simp only [List.map_cons] at g2
      cases g2 with
      | cons hx g2 =>
        simp only [fillS] at g4
        split at g4
        case h_2 => cases g4
        rename_i xs hxs
        split at g4
        case isFalse => cases g4
        rename_i hc
        have hfa : fillA pl cs [(i, x)] = some (wr cs (i * s) xs) := by
          simp only [fillA]
          rw [hpl i (hb (i, x) (List.mem_cons_self ..)), hxs]
          simp only
          rw [if_pos hc]
        obtain ⟨zs1, hz1, hz2⟩ := fill_run (φ := φ) (fun i => pl[i]?) pl (fun _ => rfl) [(i, x)] [(i, y)] cs _ ys rfl (.cons hx .nil) g3 hfa
        obtain ⟨zs, k1, k2, k3⟩ := ih qs (wr cs (i * s) xs) zs1 g1 g2 hz2 g4 (fun p hp => hb p (List.mem_cons_of_mem _ hp))
        refine ⟨zs, ?_, k2, by rw [k3, wr_length _ _ _ (by omega)]⟩
        simp only [Instr.fill, hpl i (hb (i, x) (List.mem_cons_self ..))] at hz1
        simp only [Instr.fill]
        split at hz1
        · cases hz1
        · rename_i hn
          rw [if_neg hn]
          simp only [Option.some.injEq] at hz1
          rw [hz1]
          exact k1
theorem buildArr_run (hI : Inv W0 φ H W) {t el : TypeId} {n : Nat} {i j : TyI} (ht : tyi P t = some i) (ha : arrt P t = some (n, el)) (hj : tyi P el = some j) {ps : List (Nat × AV)} {qs : Array (Nat × Value)} (h1 : ps.map (·.1) = qs.toList.map (·.1))
    (h2 : VRs φ (ps.map (·.2)) (qs.toList.map (·.2))) {cs : List AV} (hf : fillS j.size (i.zero.map .v) ps = some cs) : ∃ y, (Instr.build t qs).run P W = .ok y W ∧ VR φ (.agg cs) y := by
  obtain ⟨d, i', z, hd, hi, hz, rfl⟩ := tyi_run ht
  obtain ⟨d', j', z', hd', hj', hz', rfl⟩ := tyi_run hj
  have hu : P.underlying t = some (.array n el) := by
    unfold arrt at ha
    split at ha
    · rename_i n' e' hu; simp at ha; obtain ⟨rfl, rfl⟩ := ha; exact hu
    · cases ha
  obtain ⟨zs, hz1, hz2, _⟩ := fillS_run (φ := φ) j'.size ps qs.toList _ cs z.cells.toList h1 h2 (VRs.vs _) hf
  refine ⟨_, ?_, .agg hz2⟩
  have hz1' : Instr.fill (fun i => some (i * j'.size, j'.size)) z.cells qs.toList = some zs.toArray := by simpa using hz1
  simp only [Instr.build, Sem.run_bind, zero_run hi hz, run_underlying hu, sizeOf_run hj', Result.andThen_ok, hz1', Sem.run_pure]
theorem build_run (hI : Inv W0 φ H W) {t : TypeId} {i : TyI} {pl : List (Nat × Nat)} (ht : tyi P t = some i) (hp : places P t = some pl) {ps : List (Nat × AV)} {qs : Array (Nat × Value)} (h1 : ps.map (·.1) = qs.toList.map (·.1))
    (h2 : VRs φ (ps.map (·.2)) (qs.toList.map (·.2))) {cs : List AV} (hf : fillA pl (i.zero.map .v) ps = some cs) : ∃ y, (Instr.build t qs).run P W = .ok y W ∧ VR φ (.agg cs) y := by
  obtain ⟨d, j, z, hd, hj, hz, rfl⟩ := tyi_run ht
  obtain ⟨fs, hu, hm⟩ := places_run hp
  obtain ⟨zs, hz1, hz2⟩ := fill_run (φ := φ) (fun i => pl[i]?) pl (fun _ => rfl) ps qs.toList _ cs z.cells.toList h1 h2 (VRs.vs _) hf
  refine ⟨_, ?_, .agg hz2⟩
  have hz1' : Instr.fill (fun i => pl.toArray[i]?) z.cells qs.toList = some zs.toArray := by simpa using hz1
  simp only [Instr.build, Sem.run_bind, zero_run hj hz, run_underlying hu, hm, Result.andThen_ok, hz1', Sem.run_pure]
theorem buildSlice_run (hI : Inv W0 φ H W) {t e : TypeId} {i : TyI} (he : elt P t = some e) (ht : tyi P e = some i) (len : Nat) (hlen : len * i.size ≤ 16777216) (hzl : i.zero.length = i.size) {ps : List (Nat × AV)} {qs : Array (Nat × Value)}
    (h1 : ps.map (·.1) = qs.toList.map (·.1)) (h2 : VRs φ (ps.map (·.2)) (qs.toList.map (·.2))) {cs : List AV} (hf : fillS i.size (zerosA i.zero len) ps = some cs) (hK : K (.sl H.nxt 0 len) (H.new cs i.size)) :
    ∃ y W', (Instr.buildSlice t len qs).run P W = .ok y W' ∧ Good W0 φ K y W' := by
  obtain ⟨d, j, z, hd, hj, hz, rfl⟩ := tyi_run ht
  simp only at hlen hf hzl hK
  have hzs : z.cells.size = j.size := by rw [← hzl, Array.length_toList]
  have hbig : ¬ (len * j.size > 2 ^ 24) := by simp; omega
  -- the cells
  have hfill : ∃ zs : List Value, Instr.fill (fun i => some (i * j.size, j.size)) (List.replicate len z.cells.toList).flatten.toArray qs.toList = some zs.toArray ∧ VRs φ cs zs ∧ cs.length = len * j.size := by
    have hlz : (zerosA z.cells.toList len).length = len * j.size := by rw [zerosA_length, Array.length_toList, hzs]
    obtain ⟨zs, k1, k2, k3⟩ := fillS_run j.size ps qs.toList _ cs _ h1 h2 (zerosA_ok z.cells.toList len) hf
    exact ⟨zs, k1, k2, by rw [k3, hlz]⟩
  obtain ⟨zs, k1, k2, k3⟩ := hfill
  have hzl2 := k2.length
  obtain ⟨hI', hx⟩ := good_new hI k2 j.size e (C := zs.toArray) rfl
  refine ⟨.slice (some ⟨W.heap.size, 0, none⟩) len len, _, ?_, .sl H.nxt 0 len, _, _, .sl (updφ_at _ _ _) (Nat.le_refl _) (.inr ⟨by simp, by simp; omega⟩), hI', hx, hK⟩
  have hcells : (Array.range (len * j.size)).map (z.cells[· % z.cells.size]!) = (List.replicate len z.cells.toList).flatten.toArray := by
    apply Array.ext'
    rw [zeros_list z.cells len j.size hzs]
  by_cases h0 : len * j.size = 0
  · have hemp : (List.replicate len z.cells.toList).flatten = [] := by
      apply List.eq_nil_of_length_eq_zero
      have : ∀ n, (List.replicate n z.cells.toList).flatten.length = n * z.cells.size := by
        intro n
        induction n with
        | zero => simp
        | succ n ih => rw [List.replicate_succ, List.flatten_cons, List.length_append, ih, Array.length_toList, Nat.add_mul]; omega
      rw [this, hzs, h0]
    rw [hemp] at k1
    simp only [Instr.buildSlice, Sem.run_bind, run_underlying (elt_run he), Result.andThen_ok, sizeOf_run hj, hbig, if_false, h0, if_true, Sem.run_pure, Array.range_zero', Array.map_empty]
    simp [h0, k1, newRow]
  · simp only [Instr.buildSlice, Sem.run_bind, run_underlying (elt_run he), Result.andThen_ok, sizeOf_run hj, hbig, if_false, h0, zero_run hj hz, Sem.run_pure, hcells]
    simp [h0, k1, newRow, hcells]
end
section
/-! The calculus 'Aw', part 5: slices, makes, clear; the theorem of one operation. -/
open Go Go.RowKit
set_option linter.unusedVariables false
set_option linter.unusedSimpArgs false
set_option linter.unusedSectionVars false
set_option maxHeartbeats 1000000
variable {P : Program} {W0 W : World} {φ : Phi} {H : AH} {K : AV → AH → Prop}

theorem bound_run {x : Option AV} {y : Option Value} (hxy : ∀ a, x = some a → ∃ b, y = some b ∧ VR φ a b) (hn : x = none → y = none) {d l : Nat} {i : Int} (hb : boundA d x = some i) (h0 : 0 ≤ i) (hl : i ≤ l) (code : BoundsCode) (W : World) :
    (match y with | some v => Instr.sliceBound v l code | none => (pure d : Sem Nat)).run P W = .ok i.toNat W := by
  cases x with
  | none =>
    rw [hn rfl]
    simp only [boundA, Option.some.injEq] at hb
    subst hb
    simp
  | some a =>
    obtain ⟨b, rfl, hv⟩ := hxy a rfl
    cases a with
    | v x =>
      cases hv
      obtain ⟨k, rfl⟩ : ∃ k, b = .int k i := by
        cases b <;> simp [boundA] at hb
        exact ⟨_, by rw [hb]⟩
      simp only [Instr.sliceBound, asIntOf, Sem.run_bind, Sem.run_pure, Result.andThen_ok]
      rw [if_pos ⟨h0, hl⟩]
      rfl
    | _ => simp [boundA] at hb
theorem bounds_runc {lo hi : Option AV} {lo' hi' : Option Value} (h1 : ∀ a, lo = some a → ∃ b, lo' = some b ∧ VR φ a b) (h1n : lo = none → lo' = none)
    (h2 : ∀ a, hi = some a → ∃ b, hi' = some b ∧ VR φ a b) (h2n : hi = none → hi' = none) {n c : Nat} {l h : Int} (hl : boundA 0 lo = some l) (hh : boundA n hi = some h) (k1 : 0 ≤ l) (k2 : l ≤ h) (k3 : h ≤ c) (b : Bool) (W : World) :
    (Instr.sliceBounds b n c lo' hi' none).run P W = .ok (l.toNat, h.toNat, c) W := by
  have b2 := bound_run (P := P) h2 h2n hh (by omega) (show h ≤ (c : Int) by omega) (if b then .sliceAcap else .sliceAlen) W
  have b1 := bound_run (P := P) h1 h1n hl k1 (show l ≤ (h.toNat : Int) by omega) .sliceB W
  cases hi' with
  | none =>
    simp only [Sem.run_pure, Result.ok.injEq, and_true] at b2
    cases lo' with
    | none =>
      simp only [Sem.run_pure, Result.ok.injEq, and_true] at b1
      simp [Instr.sliceBounds, ← b1, ← b2]
    | some v =>
      rw [← b2] at b1
      simp only at b1
      simp [Instr.sliceBounds, b1, ← b2]
  | some w =>
    simp only at b2
    cases lo' with
    | none =>
      simp only [Sem.run_pure, Result.ok.injEq, and_true] at b1
      simp [Instr.sliceBounds, ← b1, b2]
    | some v =>
      simp only at b1
      simp [Instr.sliceBounds, b1, b2]
theorem bounds_run {lo hi : Option AV} {lo' hi' : Option Value} (h1 : ∀ a, lo = some a → ∃ b, lo' = some b ∧ VR φ a b) (h1n : lo = none → lo' = none)
    (h2 : ∀ a, hi = some a → ∃ b, hi' = some b ∧ VR φ a b) (h2n : hi = none → hi' = none) {n c : Nat} {l h : Int} (hl : boundA 0 lo = some l) (hh : boundA n hi = some h) (k1 : 0 ≤ l) (k2 : l ≤ h) (k3 : h ≤ n) (k4 : n ≤ c) (b : Bool) (W : World) :
    (Instr.sliceBounds b n c lo' hi' none).run P W = .ok (l.toNat, h.toNat, c) W := bounds_runc h1 h1n h2 h2n hl hh k1 k2 (by omega) b W
theorem slice_run (hI : Inv W0 φ H W) {t : TypeId} {s : Nat} {x : AV} {y : Value} (hx : VR φ x y) {lo hi : Option AV} {lo' hi' : Option Value} (h1 : ∀ a, lo = some a → ∃ b, lo' = some b ∧ VR φ a b) (h1n : lo = none → lo' = none)
    (h2 : ∀ a, hi = some a → ∃ b, hi' = some b ∧ VR φ a b) (h2n : hi = none → hi' = none) (hs : aslice W0 H s x lo hi K)
    (ht : (∃ q, x = .v (.string q)) ∧ isStr P t = true ∨ (¬ ∃ q, x = .v (.string q)) ∧ ∃ e j, elt P t = some e ∧ P.info? e = some j ∧ j.size = s) : ∃ u, (Instr.sliceAt t y lo' hi' none).run P W = .ok u W ∧ Good W0 φ K u W := by
  unfold aslice at hs
  split at hs
  · rename_i q
    have hstr : P.underlying t = some .string := by
      rcases ht with ⟨_, h⟩ | ⟨h, _⟩
      · exact str_run h
      · exact absurd ⟨_, rfl⟩ h
    cases hx
    split at hs
    case h_2 => exact hs.elim
    rename_i l h hl hh
    obtain ⟨k1, k2, k3, k4⟩ := hs
    have hb := bounds_run (P := P) h1 h1n h2 h2n hl hh k1 k2 k3 (Nat.le_refl _) false W
    exact ⟨_, by simp [Instr.sliceAt, run_underlying hstr, Instr.slice, hb], good_same hI (.v _) k4⟩
  · rename_i b o n
    obtain ⟨e, j, he, hj, hjs⟩ : ∃ e j, elt P t = some e ∧ P.info? e = some j ∧ j.size = s := by
      rcases ht with ⟨⟨q, h⟩, _⟩ | ⟨_, h⟩
      · cases h
      · exact h
    split at hs
    case h_2 => exact hs.elim
    rename_i B hB
    split at hs
    case h_2 => exact hs.elim
    rename_i l h hl hh
    obtain ⟨k0, k1, k2, k3, k4⟩ := hs
    cases hx with
    | sl hp hnc hcap =>
      rename_i c ad p
      have hb := bounds_run (P := P) h1 h1n h2 h2n hl hh k1 k2 k3 hnc true W
      have hrun : (Instr.sliceAt t (.slice (some ad) n c) lo' hi' none).run P W = .ok (.slice (if c = l.toNat then some ad else (some ad).map (·.add (l.toNat * j.size))) (h.toNat - l.toNat) (c - l.toNat)) W := by
        simp [Instr.sliceAt, run_underlying (elt_run he), Instr.slice, hb, sizeOf_run hj]
      have hesz : p.esz = s := by
        obtain ⟨p0, hp0, _, k, _⟩ := hI.blks b B hB
        rw [hp] at hp0
        cases hp0
        rw [← k, k0]
      refine ⟨_, hrun, .sl b (o + l.toNat * s) (h.toNat - l.toNat), H, φ, ?_, hI, Ext.refl _, k4⟩
      by_cases hcl : c = l.toNat
      · rw [if_pos hcl]
        exact .sl hp (by omega) (.inl (by omega))
      · rw [if_neg hcl]
        simp only [Option.map_some]
        refine .sl hp (by omega) ?_
        rcases hcap with hc0 | ⟨rfl, hcl2⟩
        · omega
        · refine .inr ⟨by rw [Addr.add_lit, hjs, Nat.add_assoc], ?_⟩
          have : l.toNat * p.esz + (c - l.toNat) * p.esz = c * p.esz := by rw [← Nat.add_mul]; congr 1; omega
          rw [hesz] at *
          omega
  · rename_i b o n c
    obtain ⟨e, j, he, hj, hjs⟩ : ∃ e j, elt P t = some e ∧ P.info? e = some j ∧ j.size = s := by
      rcases ht with ⟨⟨q, h⟩, _⟩ | ⟨_, h⟩
      · cases h
      · exact h
    split at hs
    case h_2 => exact hs.elim
    rename_i B hB
    split at hs
    case h_2 => exact hs.elim
    rename_i l h hl hh
    obtain ⟨k0, k1, k2, k3, k4⟩ := hs
    cases hx with
    | slc hp hnc hcap =>
      rename_i ad p
      have hb := bounds_runc (P := P) h1 h1n h2 h2n hl hh k1 k2 k3 true W
      have hrun : (Instr.sliceAt t (.slice (some ad) n c) lo' hi' none).run P W = .ok (.slice (if c = l.toNat then some ad else (some ad).map (·.add (l.toNat * j.size))) (h.toNat - l.toNat) (c - l.toNat)) W := by
        simp [Instr.sliceAt, run_underlying (elt_run he), Instr.slice, hb, sizeOf_run hj]
      have hesz : p.esz = s := by
        obtain ⟨p0, hp0, _, k, _⟩ := hI.blks b B hB
        rw [hp] at hp0
        cases hp0
        rw [← k, k0]
      refine ⟨_, hrun, .slc b (o + l.toNat * s) (h.toNat - l.toNat) (c - l.toNat), H, φ, ?_, hI, Ext.refl _, k4⟩
      by_cases hcl : c = l.toNat
      · rw [if_pos hcl]
        exact .slc hp (by omega) (.inl (by omega))
      · rw [if_neg hcl]
        simp only [Option.map_some]
        refine .slc hp (by omega) ?_
        rcases hcap with hc0 | ⟨rfl, hcl2⟩
        · omega
        · refine .inr ⟨by rw [Addr.add_lit, hjs, Nat.add_assoc], ?_⟩
          have : l.toNat * p.esz + (c - l.toNat) * p.esz = c * p.esz := by rw [← Nat.add_mul]; congr 1; omega
          rw [hesz] at *
          omega
  · obtain ⟨e, j, he, hj, hjs⟩ : ∃ e j, elt P t = some e ∧ P.info? e = some j ∧ j.size = s := by
      rcases ht with ⟨⟨q, h⟩, _⟩ | ⟨_, h⟩
      · cases h
      · exact h
    split at hs
    case h_2 => exact hs.elim
    rename_i l h hl hh
    obtain ⟨rfl, rfl, k4⟩ := hs
    cases hx with
    | sl0 A =>
      have hb := bounds_runc (P := P) (c := 0) h1 h1n h2 h2n hl hh (by omega) (by omega) (by omega) true W
      exact ⟨.slice A 0 0, by simp [Instr.sliceAt, run_underlying (elt_run he), Instr.slice, hb, sizeOf_run hj], good_same hI (.sl0 A) k4⟩
  · rename_i A n c
    obtain ⟨e, j, he, hj, hjs⟩ : ∃ e j, elt P t = some e ∧ P.info? e = some j ∧ j.size = s := by
      rcases ht with ⟨⟨q, h⟩, _⟩ | ⟨_, h⟩
      · cases h
      · exact h
    split at hs
    case h_2 => exact hs.elim
    rename_i l h hl hh
    obtain ⟨k1, k2, k3, k5, k4⟩ := hs
    cases hx
    have hb := bounds_run (P := P) h1 h1n h2 h2n hl hh k1 k2 k3 k5 true W
    exact ⟨_, by simp [Instr.sliceAt, run_underlying (elt_run he), Instr.slice, hb, sizeOf_run hj, hjs], good_same hI (.v _) k4⟩
  · exact hs.elim

theorem boundA_some {φ : Phi} {a : AV} {y : Value} {i : Int} (h : VR φ a y) (hb : boundA 0 (some a) = some i) : ∃ k, y = .int k i := by
  cases a with
  | v x =>
    cases h
    cases y <;> simp [boundA] at hb
    exact ⟨_, by rw [hb]⟩
  | _ => simp [boundA] at hb
theorem slice3_run (hI : Inv W0 φ H W) {t : TypeId} {s : Nat} {x : AV} {y : Value} (hx : VR φ x y) {lo hi mx : Option AV} {lo' hi' mx' : Option Value} (h1 : ∀ a, lo = some a → ∃ b, lo' = some b ∧ VR φ a b) (h1n : lo = none → lo' = none)
    (h2 : ∀ a, hi = some a → ∃ b, hi' = some b ∧ VR φ a b) (h3 : ∀ a, mx = some a → ∃ b, mx' = some b ∧ VR φ a b) (hs : aslice3 W0 H s x lo hi mx K)
    (ht : ∃ e j, elt P t = some e ∧ P.info? e = some j ∧ j.size = s) : ∃ u, (Instr.sliceAt t y lo' hi' mx').run P W = .ok u W ∧ Good W0 φ K u W := by
  obtain ⟨e, j, he, hj, hjs⟩ := ht
  unfold aslice3 at hs
  split at hs
  case h_2 => exact hs.elim
  rename_i l h m hl hh hm
  obtain ⟨ah, rfl, hh⟩ := Option.bind_eq_some_iff.1 hh
  obtain ⟨am, rfl, hm⟩ := Option.bind_eq_some_iff.1 hm
  obtain ⟨bh, rfl, vh⟩ := h2 _ rfl
  obtain ⟨bm, rfl, vm⟩ := h3 _ rfl
  obtain ⟨kh, rfl⟩ := boundA_some vh hh
  obtain ⟨km, rfl⟩ := boundA_some vm hm
  have bounds : ∀ (n c : Nat), 0 ≤ l → l ≤ h → h ≤ m → m ≤ c → (Instr.sliceBounds true n c lo' (some (.int kh h)) (some (.int km m))).run P W = .ok (l.toNat, h.toNat, m.toNat) W := by
    intro n c g1 g2 g3 g4
    have bm := bound_run (P := P) (φ := φ) (x := some am) (y := some (.int km m)) (fun a ha => ⟨_, rfl, by cases ha; exact vm⟩) (fun h => by cases h) (d := 0) hm (by omega) g4 .slice3Acap W
    have bh := bound_run (P := P) (φ := φ) (x := some ah) (y := some (.int kh h)) (fun a ha => ⟨_, rfl, by cases ha; exact vh⟩) (fun h => by cases h) (d := 0) hh (by omega) (show h ≤ (m.toNat : Int) by omega) .slice3B W
    have bl := bound_run (P := P) h1 h1n hl g1 (show l ≤ (h.toNat : Int) by omega) .slice3C W
    simp only at bm bh
    cases lo' with
    | none =>
      simp only [Sem.run_pure, Result.ok.injEq, and_true] at bl
      simp [Instr.sliceBounds, bm, bh, ← bl]
    | some v =>
      simp only at bl
      simp [Instr.sliceBounds, bm, bh, bl]
  split at hs
  · rename_i b o n c
    split at hs
    case h_2 => exact hs.elim
    rename_i B hB
    obtain ⟨k0, k1, k2, k3, k3', k4⟩ := hs
    cases hx with
    | slc hp hnc hcap =>
      rename_i ad p
      have hb := bounds n c k1 k2 k3 k3'
      have hrun : (Instr.sliceAt t (.slice (some ad) n c) lo' (some (.int kh h)) (some (.int km m))).run P W = .ok (.slice (if m.toNat = l.toNat then some ad else (some ad).map (·.add (l.toNat * j.size))) (h.toNat - l.toNat) (m.toNat - l.toNat)) W := by
        simp [Instr.sliceAt, run_underlying (elt_run he), Instr.slice, hb, sizeOf_run hj]
      have hesz : p.esz = s := by
        obtain ⟨p0, hp0, _, k, _⟩ := hI.blks b B hB
        rw [hp] at hp0
        cases hp0
        rw [← k, k0]
      refine ⟨_, hrun, .slc b (o + l.toNat * s) (h.toNat - l.toNat) (m.toNat - l.toNat), H, φ, ?_, hI, Ext.refl _, k4⟩
      by_cases hcl : m.toNat = l.toNat
      · rw [if_pos hcl]
        exact .slc hp (by omega) (.inl (by omega))
      · rw [if_neg hcl]
        simp only [Option.map_some]
        refine .slc hp (by omega) ?_
        rcases hcap with hc0 | ⟨rfl, hcl2⟩
        · omega
        · refine .inr ⟨by rw [Addr.add_lit, hjs, Nat.add_assoc], ?_⟩
          have h1 : l.toNat * p.esz + (m.toNat - l.toNat) * p.esz = m.toNat * p.esz := by rw [← Nat.add_mul]; congr 1; omega
          have h2 : m.toNat * p.esz ≤ c * p.esz := Nat.mul_le_mul_right _ (by omega)
          rw [hesz] at *
          omega
  · obtain ⟨k0, rfl, rfl, rfl, k4⟩ := hs
    obtain ⟨n, hn⟩ := Option.isSome_iff_exists.1 k0
    obtain ⟨A, c, rfl⟩ : ∃ A c, y = .slice A n c := by
      cases hx with
      | v y =>
        cases y <;> simp only [slLen, Option.some.injEq] at hn <;> first | cases hn | skip
        exact ⟨_, _, rfl⟩
      | sl _ _ _ => simp only [slLen, Option.some.injEq] at hn; subst hn; exact ⟨_, _, rfl⟩
      | sl0 a => simp only [slLen, Option.some.injEq] at hn; subst hn; exact ⟨_, _, rfl⟩
      | _ => simp [slLen] at hn
    have hb := bounds n c (by omega) (by omega) (by omega) (by omega)
    exact ⟨.slice A 0 0, by simp [Instr.sliceAt, run_underlying (elt_run he), Instr.slice, hb, sizeOf_run hj], good_same hI (.sl0 A) k4⟩

theorem makeSlice_run (hI : Inv W0 φ H W) {t e : TypeId} {i : TyI} (he : elt P t = some e) (ht : tyi P e = some i) {n : Int} (h0 : 0 ≤ n) (hb : n * i.bytes ≤ 281474976710656) (hn : n ≤ 281474976710656) (hzl : i.zero.length = i.size)
    (hK : K (.sl H.nxt 0 n.toNat) (H.new (zerosA i.zero n.toNat) i.size)) :
    ∃ y W', (Instr.makeSlice t (.int .i64 n) (.int .i64 n)).run P W = .ok y W' ∧ Good W0 φ K y W' := by
  obtain ⟨d, j, z, hd, hj, hz, rfl⟩ := tyi_run ht
  simp only at hb hzl hK
  obtain ⟨m, rfl⟩ := Int.eq_ofNat_of_zero_le h0
  have hzs : z.cells.size = j.size := by rw [← hzl, Array.length_toList]
  have hw : IntKind.i64.wrap (m : Int) = m := by
    unfold IntKind.wrap
    simp [IntKind.bits, IntKind.signed]
    omega
  have hbig : ¬ ((j.bytes : Int) * (m : Int) > 2 ^ 48) := by
    rw [Int.mul_comm]
    simp; omega
  obtain ⟨hI', hx⟩ := good_new hI (zerosA_ok z.cells.toList m) j.size e (C := (List.replicate m z.cells.toList).flatten.toArray) rfl
  have hcs : (List.replicate m z.cells.toList).flatten.toArray.size = m * j.size := by
    have := (zerosA_ok (φ := φ) z.cells.toList m).length
    rw [zerosA_length, Array.length_toList, hzs] at this
    simpa using this.symm
  refine ⟨.slice (some ⟨W.heap.size, 0, none⟩) m m, _, ?_, .sl H.nxt 0 m, _, _, .sl (updφ_at _ _ _) (Nat.le_refl _) (.inr ⟨by simp, by rw [hcs]; simp⟩), hI', hx, by simpa using hK⟩
  have hcells : (Array.range (m * j.size)).map (z.cells[· % z.cells.size]!) = (List.replicate m z.cells.toList).flatten.toArray := by
    apply Array.ext'
    rw [zeros_list z.cells m j.size hzs]
  have hneg : ¬ ((m : Int) < 0) := by omega
  have hbig' : ¬ (281474976710656 < (j.bytes : Int) * (m : Int)) := by rw [Int.mul_comm]; omega
  by_cases hz0 : m * j.size = 0
  · have hemp : (List.replicate m z.cells.toList).flatten.toArray = #[] := by
      apply Array.eq_empty_of_size_eq_zero
      rw [hcs, hz0]
    rw [hemp]
    simp [Instr.makeSlice, run_underlying (elt_run he), asInt, asIntOf, typeInfo, hj, hw, hbig', sizeOf_run hj, hz0, newRow, hneg]
    have hr0 : Array.map (fun _ : Nat => (default : Value)) (Array.range 0) = #[] := by simp
    first | (rw [hr0]; done) | (rw [hr0]; rfl)
  · simp [Instr.makeSlice, run_underlying (elt_run he), asInt, asIntOf, typeInfo, hj, hw, hbig', sizeOf_run hj, zero_run hj hz, hz0, newRow, hcells, hneg]
    try rfl

theorem clear_run (hI : Inv W0 φ H W) {t e : TypeId} {i : TyI} (he : elt P t = some e) (ht : tyi P e = some i) {b o n : Nat} {y : Value} {B : Blk} (hx : VR φ (.sl b o n) y) (hB : H.blk b = some B) (hes : B.esz = i.size) (hzl : i.zero.length = i.size) (hlf : i.zero.all leafV = true)
    (hon : o + n * i.size ≤ B.cells.length) (ty : TypeId) (hK : K .dead (H.set b ⟨wr B.cells o (zerosA i.zero n), B.esz⟩)) : ∃ y' W', (Builtin.clear_ #[t] ty #[y]).run P W = .ok y' W' ∧ Good W0 φ K y' W' := by
  obtain ⟨d, j, z, hd, hj, hz, rfl⟩ := tyi_run ht
  simp only at hes hzl hlf hon hK
  have hzs : z.cells.size = j.size := by rw [← hzl, Array.length_toList]
  cases hx with
  | sl hp hnc hcap =>
    rename_i c ad p
    obtain ⟨p0, hp0, k1, k2, k3, C, et, hC, k4, k5⟩ := hI.blks b B hB
    rw [hp] at hp0
    cases hp0
    rcases Nat.eq_zero_or_pos n with hn0 | hn0
    · subst hn0
      refine ⟨.tuple #[], W, ?_, .dead, H.set b ⟨wr B.cells o (zerosA z.cells.toList 0), B.esz⟩, φ, .dead _, ?_, Ext.refl _, hK⟩
      · simp [Builtin.clear_, run_underlying (elt_run he)]
      · have hw : wr B.cells o (zerosA z.cells.toList 0) = B.cells := by simp [wr, zerosA]
        have := hI.write hB hp hC rfl (cells := wr B.cells o (zerosA z.cells.toList 0)) (by rw [hw]; exact k3) (by rw [hw]; exact k5)
        rwa [setRow_self W p.g C et (0, 0) hC] at this
    · rcases hcap with hc0 | ⟨rfl, hcl⟩
      · omega
      have hzc : (Builtin.zeroCells z.cells n).toList = (List.replicate n z.cells.toList).flatten := zeros_list z.cells n z.cells.size rfl
      have hv : VRs φ (zerosA z.cells.toList n) (Builtin.zeroCells z.cells n).toList := by rw [hzc]; exact zerosA_ok _ _
      have hlen := hv.length
      have hzz0 : (Builtin.zeroCells z.cells n).size = (Builtin.zeroCells z.cells n).toList.length := by simp
      have hzl2 : (zerosA z.cells.toList n).length = n * j.size := by rw [zerosA_length, Array.length_toList, hzs]
      have hleaf : (zerosA z.cells.toList n).all leafA = true := by
        simp only [List.all_eq_true]
        intro a ha
        simp only [zerosA, List.mem_flatten, List.mem_replicate] at ha
        obtain ⟨l, ⟨_, rfl⟩, ha⟩ := ha
        simp only [List.mem_map] at ha
        obtain ⟨u, hu, rfl⟩ := ha
        simp only [List.all_eq_true] at hlf
        exact hlf u hu
      have hst := run_storeCells_at P p.g (p.base + o) et (Builtin.zeroCells z.cells n).toList 0 C W hC (by simp only [Nat.add_zero]; omega) (leafs_ok hv hleaf)
      simp only [Nat.add_zero] at hst
      refine ⟨.tuple #[], W.setRow p.g (C.toList.take (p.base + o) ++ (Builtin.zeroCells z.cells n).toList ++ C.toList.drop (p.base + o + (Builtin.zeroCells z.cells n).toList.length)).toArray, ?_, .dead, H.set b ⟨wr B.cells o (zerosA z.cells.toList n), B.esz⟩, φ, .dead _, ?_, Ext.refl _, hK⟩
      · obtain ⟨n, rfl⟩ : ∃ m, n = m + 1 := ⟨n - 1, by omega⟩
        simp only [Array.length_toList] at hst
        simp [Builtin.clear_, run_underlying (elt_run he), zero_run hj hz, hst]
      · refine hI.write hB hp hC (by simp; omega) (by rw [wr_length _ _ _ (by omega)]; exact k3) fun q v hq => ?_
        unfold wr at hq
        simp only [List.getElem?_toArray] at hq ⊢
        simp only [List.getElem?_append, List.length_append, List.length_take, Array.length_toList] at hq ⊢
        have m1 : min o B.cells.length = o := by omega
        have m2 : min (p.base + o) C.size = p.base + o := by omega
        rw [m1, hzl2] at hq
        have hzz : (Builtin.zeroCells z.cells n).size = n * j.size := by rw [← Array.length_toList, ← hlen, hzl2]
        rw [m2, hzz]
        by_cases c1 : q < o
        · rw [if_pos (by omega), if_pos c1, List.getElem?_take, if_pos c1] at hq
          rw [if_pos (by omega), if_pos (by omega), List.getElem?_take, if_pos (by omega), Array.getElem?_toList]
          exact k5 q v hq
        · by_cases c2 : q < o + n * j.size
          · rw [if_pos c2, if_neg c1] at hq
            rw [if_pos (by omega), if_neg (by omega), show p.base + q - (p.base + o) = q - o from by omega]
            exact hv.get _ _ hq
          · rw [if_neg c2, List.getElem?_drop] at hq
            rw [if_neg (by omega), List.getElem?_drop, Array.getElem?_toList, show p.base + o + n * j.size + (p.base + q - (p.base + o + n * j.size)) = p.base + (o + n * j.size + (q - (o + n * j.size))) from by omega]
            exact k5 _ v hq
theorem slBlk_ok {φ : Phi} {x : AV} {y : Value} (h : VR φ x y) {b o n : Nat} (hb : slBlk x = some (b, o, n)) : VR φ (.sl b o n) y := by
  cases h with
  | sl h1 h2 h3 => simp only [slBlk, Option.some.injEq, Prod.mk.injEq] at hb; obtain ⟨rfl, rfl, rfl⟩ := hb; exact .sl h1 h2 h3
  | slc h1 h2 h3 => simp only [slBlk, Option.some.injEq, Prod.mk.injEq] at hb; obtain ⟨rfl, rfl, rfl⟩ := hb; exact .sl h1 h2 h3
  | _ => simp [slBlk] at hb
theorem lenA_ok {φ : Phi} {x : AV} {y : Value} (h : VR φ x y) {n : Nat} (hn : lenA x = some n) : ∃ A c, y = .slice A n c := by
  cases h with
  | v y =>
    cases y <;> simp only [lenA, slLen, Option.some.injEq] at hn <;> first | cases hn | skip
    exact ⟨_, _, rfl⟩
  | sl _ _ _ => simp only [lenA, slLen, Option.some.injEq] at hn; subst hn; exact ⟨_, _, rfl⟩
  | slc _ _ _ => simp only [lenA, Option.some.injEq] at hn; subst hn; exact ⟨_, _, rfl⟩
  | sl0 a => simp only [lenA, slLen, Option.some.injEq] at hn; subst hn; exact ⟨_, _, rfl⟩
  | _ => simp [lenA, slLen] at hn
theorem copy_run (hI : Inv W0 φ H W) {t t' e : TypeId} {i : TyI} (he : elt P t = some e) (ht : tyi P e = some i) {d s : AV} {yd ys : Value} (hd : VR φ d yd) (hs : VR φ s ys) {b o n m : Nat} (hb : slBlk d = some (b, o, n)) (hm : lenA s = some m) {B : Blk} (hB : H.blk b = some B)
    {new : List AV} (hnew : slCells W0 H i.size (min m n) s = some new) (hes : B.esz = i.size) (hon : o + n * i.size ≤ B.cells.length) (hlf : new.all leafA = true) (ty : TypeId) (hK : K (.v (.int .i64 (min m n : Nat))) (H.set b ⟨wr B.cells o new, B.esz⟩)) :
    ∃ y' W', (Builtin.copy_ #[t, t'] ty #[yd, ys]).run P W = .ok y' W' ∧ Good W0 φ K y' W' := by
  obtain ⟨dd, j, z, hdd, hj, hz, rfl⟩ := tyi_run ht
  simp only at hnew hes hon
  obtain ⟨A, mm, c, news, rfl, hnv, hnl, hmm, hfc⟩ := firstCells_run (P := P) hI hs hnew
  obtain ⟨A', c', hy⟩ := lenA_ok hs hm
  injection hy with _ hmeq _
  subst hmeq
  have hf := hfc W.drawn
  have hnews : news.length = min mm n * j.size := by rw [← hnv.length, hnl]
  have hd := slBlk_ok hd hb
  cases hd with
  | sl hp hnc hcap =>
    rename_i cd ad p
    obtain ⟨p0, hp0, k1, k2, k3, C, et, hC, k4, k5⟩ := hI.blks b B hB
    rw [hp] at hp0
    cases hp0
    have hle : min mm n * j.size ≤ n * j.size := Nat.mul_le_mul_right _ (Nat.min_le_right _ _)
    have hw := hI.wrAt hB hp hC o hnv (by omega)
    have hrun : (storeCells ad news).run P W = .ok () (W.setRow p.g (C.toList.take (p.base + o) ++ news ++ C.toList.drop (p.base + o + news.length)).toArray) := by
      rcases hcap with hc0 | ⟨rfl, hcl⟩
      · have h0 : news = [] := List.eq_nil_of_length_eq_zero (by rw [hnews, show n = 0 by omega]; simp)
        subst h0
        simp only [List.append_nil, List.length_nil, Nat.add_zero, List.take_append_drop, Array.toArray_toList, storeCells]
        rw [setRow_self W p.g C et (0, 0) hC]
        rfl
      · have hst := run_storeCells_at P p.g (p.base + o) et news 0 C W hC (by simp only [Nat.add_zero]; omega) (leafs_ok hnv hlf)
        simpa only [Nat.add_zero] using hst
    have e0 : Nat.min mm n = min mm n := rfl
    exact ⟨.int .i64 ((min mm n : Nat) : Int), _, by simp [Builtin.copy_, run_underlying (elt_run he), Builtin.lenOf, sizeOf_run hj, e0, hf, hrun, goInt], _, _, _, .v _, hw, Ext.refl _, hK⟩
theorem appendz_run (hI : Inv W0 φ H W) {e t t' : TypeId} (ht : elt P t = some e) (ht' : isInt P t' = true) {d : AV} {yd : Value} (hd : VR φ d yd) (m : Nat) (ty : TypeId) (ha : aappendz P W0 H e d m K) :
    ∃ y W', (Builtin.append_ #[t, t'] ty #[yd, .int .i64 m]).run P W = .ok y W' ∧ Good W0 φ K y W' := by
  unfold aappendz at ha
  split at ha
  case h_2 => exact ha.elim
  rename_i i b o n c hi
  split at ha
  case h_2 => exact ha.elim
  rename_i B hB
  obtain ⟨hsz, hby, hzl, he, hoc, hnc, hlim, hgt, ha⟩ := ha
  obtain ⟨D, j, z, hD, hj, hz, rfl⟩ := tyi_run hi
  simp only at hsz hby hzl he hoc hlim ha
  obtain ⟨k, hk⟩ : ∃ k, P.underlying t' = some (.int k) := by
    unfold isInt at ht'
    split at ht'
    · exact ⟨_, by assumption⟩
    · cases ht'
  have hon : o + n * j.size ≤ B.cells.length := Nat.le_trans (Nat.add_le_add_left (Nat.mul_le_mul_right _ hnc) _) hoc
  obtain ⟨p0, ovs, hp0, hov, hoc2⟩ := hI.reads hB o (n * j.size) hon
  cases hd with
  | slc hp hnc2 hcap =>
    rename_i ad p
    rw [hp] at hp0
    cases hp0
    have hol : ((B.cells.drop o).take (n * j.size)).length = n * j.size := by simp; omega
    have hovl : ovs.length = n * j.size := by rw [← hov.length, hol]
    have hzc : z.cells.size = j.size := by rw [← hzl, Array.length_toList]
    have hgrow := growslice_fits (need := n + m) (old := c) (bytes := j.bytes) (by omega) hlim
    have hmb : n + m ≤ (n + m) * j.bytes := Nat.le_mul_of_pos_right _ hby
    have hmm : m * j.bytes ≤ (n + m) * j.bytes := Nat.mul_le_mul_right _ (by omega)
    have hcapge := grownCap_ge W (n + m) c e
    have hz1 : (Builtin.zeroCells z.cells m).toList = (List.replicate m z.cells.toList).flatten := zeros_list z.cells m z.cells.size rfl
    have hzv : VRs φ (zerosA z.cells.toList m) (Builtin.zeroCells z.cells m).toList := by rw [hz1]; exact zerosA_ok _ _
    have hzs : (Builtin.zeroCells z.cells m).size = m * j.size := by rw [← Array.length_toList, ← hzv.length, zerosA_length, Array.length_toList, hzc]
    have hfo : ∀ dr, (Builtin.firstCells j.size n (.slice (some ad) n c)).run P { W with drawn := dr } = .ok ovs.toArray { W with drawn := dr } := by
      intro dr
      rcases hcap with hc0 | ⟨rfl, hcl⟩
      · have hn0 : n = 0 := by omega
        subst hn0
        have : ovs = [] := List.eq_nil_of_length_eq_zero (by rw [hovl, Nat.zero_mul])
        subst this
        simp [Builtin.firstCells, loadCells, loadCellsFrom]
      · have := run_loadCells_list (P := P) { W with drawn := dr } ⟨p0.g, p0.base + o, none⟩ ovs (fun q u hq => by rw [Addr.add_lit]; exact hoc2 q u hq)
        rw [hovl] at this
        simp only [Builtin.firstCells, this]
    have hcs : (ovs.toArray ++ Builtin.zeroCells z.cells m ++ Builtin.zeroCells z.cells (grownCap W (n + m) c e - (n + m))).size = grownCap W (n + m) c e * j.size := by
      simp only [Array.size_append, List.size_toArray, size_zeroCells, hzc, hzs, hovl, ← Nat.add_mul]
      congr 1
      omega
    have hnew2 := (hI.drawn (W.drawn + 1)).new (cells := (B.cells.drop o).take (n * j.size) ++ zerosA z.cells.toList m) j.size (C := ovs.toArray ++ Builtin.zeroCells z.cells m ++ Builtin.zeroCells z.cells (grownCap W (n + m) c e - (n + m))) (e := e)
      (by rw [hcs, List.length_append, hol, zerosA_length, Array.length_toList, hzc, ← Nat.add_mul]; exact Nat.mul_le_mul_right _ hcapge)
      (fun q v hq => by
        obtain ⟨y, hy, hv⟩ := (hov.append hzv).get q v hq
        refine ⟨y, ?_, hv⟩
        rw [← Array.getElem?_toList, Array.toList_append, Array.toList_append, List.getElem?_append_left]
        · exact hy
        · have := (List.getElem?_eq_some_iff.1 hy).1
          simpa using this)
    refine ⟨.slice (some ⟨W.heap.size, 0, none⟩) (n + m) (grownCap W (n + m) c e), _, ?_, _, _, _, .sl (updφ_at _ _ _) hcapge (.inr ⟨by simp, by simp only [hcs]; omega⟩), hnew2.1, hnew2.2, ha⟩
    have hw : IntKind.i64.wrap (m : Int) = m := by
      unfold IntKind.wrap
      simp [IntKind.bits, IntKind.signed]
      omega
    have hn : ¬ (n + m ≤ c) := by omega
    have h63' : ¬ (9223372036854775807 < ((n : Int) + (m : Int))) := by omega
    have h48' : ¬ (281474976710656 < Builtin.nextslicecap (n + m) c * j.bytes) := by omega
    have h48'' : ¬ (281474976710656 < (m : Int) * (j.bytes : Int)) := by
      have : (m : Int) * (j.bytes : Int) = ((m * j.bytes : Nat) : Int) := by simp
      rw [this]; omega
    have hm0 : ¬ (m = 0) := by omega
    have hs0 : ¬ (j.size = 0) := by omega
    have hms : ¬ (m * j.size = 0) := Nat.mul_ne_zero hm0 hs0
    have hneg : ¬ ((m : Int) < 0) := by omega
    have hf2 : (Builtin.firstCells j.size n (.slice (some ad) n c)).run P W.drew = .ok ovs.toArray W.drew := hfo (W.drawn + 1)
    simp [Builtin.append_, run_underlying (elt_run ht), run_underlying hk, sizeOf, typeInfo, zeroValue, hj, hz, asInt, asIntOf, hw, hn, h63', h48', h48'', hm0, hs0, hms, hneg, Question.forced, hf2, newRow, grownCap]
    try rfl
end
section
/-! The calculus 'Aw', part 6: the theorem of one operation. -/
open Go Go.RowKit
set_option linter.unusedVariables false
set_option linter.unusedSimpArgs false
set_option linter.unusedSectionVars false
variable {P : Program} {W0 W : World} {φ : Phi} {H : AH} {K : AV → AH → Prop} {e : Env}

section
variable {ρ : Operand → Value} {o : Oper}
theorem OpOk.val {y : Value} {W' : World} (hr : (execOp ρ o).run P W = .ok (.value y) W') (hg : Good W0 φ K y W') : OpOk P W0 φ K ρ o W := .inl ⟨y, W', hr, hg⟩
/-- An operation that is one instruction. -/
theorem OpOk.ins {s : Sem Value} (ho : execOp ρ o = (do pure (.value (← s)) : Sem Next)) {y : Value} {W' : World} (hr : s.run P W = .ok y W') (hg : Good W0 φ K y W') : OpOk P W0 φ K ρ o W :=
  .val (by rw [ho]; simp [hr]) hg
end

/-- Operands. -/
def VE (φ : Phi) (e : Env) (ρ : Operand → Value) : Prop := ∀ x, VR φ (ev e x) (ρ x)
theorem VE.list {φ : Phi} {e : Env} {ρ : Operand → Value} (h : VE φ e ρ) (xs : List Operand) : VRs φ (xs.map (ev e)) (xs.map ρ) := by
  induction xs with
  | nil => exact .nil
  | cons x xs ih => exact .cons (h x) ih
theorem VR.bool {φ : Phi} {b : Bool} {y : Value} (h : VR φ (.v (.bool b)) y) : y = .bool b := by cases h; rfl

theorem callable_run {f : FuncId} (h : callable P f = true) (args : Array Value) (W : World) : (callFunc f args).run P W = .ok (.enter f args) W := by
  unfold callable at h
  split at h
  · rename_i fn hf
    simp only [Bool.and_eq_true, bne_iff_ne, ne_eq] at h
    have h1 : (fn.name == "runtime.NumGoroutine") = false := by simpa using h.1
    have h2 : fn.body.isNone = false := by
      have := h.2
      cases hb : fn.body <;> simp_all
    have h3 : ¬ fn.name = "runtime.NumGoroutine" := h.1
    have h4 : ¬ fn.body = none := by intro hb; rw [hb] at h2; cases h2
    simp [callFunc, hf, h3, h4]
  · cases h
theorem call_ok (hI : Inv W0 φ H W) {g : FuncId} {xs : List AV} {ys : List Value} (hv : VRs φ xs ys) (hc : ACalls P W0 g xs H K) {ρ : Operand → Value} {o : Oper} (ho : ∀ W, (execOp ρ o).run P W = (callFunc g ys.toArray).run P W) : OpOk P W0 φ K ρ o W := by
  obtain ⟨hcl, hc⟩ := hc
  refine .inr (.inr ⟨g, ys.toArray, W, by rw [ho]; exact callable_run hcl _ _, (hc φ W ys hI hv).mono fun e W' ⟨y, v, H', φ', he, h1, h2, h3, h4⟩ => ⟨y, he, v, H', φ', h1, h2, h3, h4⟩⟩)
theorem callG_ok (hI : Inv W0 φ H W) {g : FuncId} {xs : List AV} {ys : List Value} (hv : VRs φ xs ys) (hc : ACallG P W0 g xs H K) {ρ : Operand → Value} {o : Oper} (ho : ∀ W, (execOp ρ o).run P W = (callFunc g ys.toArray).run P W) : OpOk P W0 φ K ρ o W := by
  rcases hc with hc | hc
  · exact call_ok hI hv hc ho
  · obtain ⟨y, W', hr, v, H', φ', h1, h2, h3, h4⟩ := hc φ W ys hI hv
    exact .inl ⟨y, W', by rw [ho]; exact hr, v, H', φ', h1, h2, h3, h4⟩

theorem parts_ok {φ : Phi} {e : Env} {ρ : Operand → Value} (h : VE φ e ρ) (parts : Array (Nat × Operand)) :
    (parts.toList.map fun p => (p.1, ev e p.2)).map (·.1) = ((parts.map fun (i, x) => (i, ρ x)).toList).map (·.1) ∧ VRs φ ((parts.toList.map fun p => (p.1, ev e p.2)).map (·.2)) (((parts.map fun (i, x) => (i, ρ x)).toList).map (·.2)) := by
  constructor
  · simp [Function.comp_def]
  · have := h.list (parts.toList.map (·.2))
    simpa [Function.comp_def] using this

theorem eqBool {t : TypeId} (hu : P.underlying t = some .bool) (a b : Bool) (W : World) : (Op.equal t (.bool a) (.bool b)).run P W = .ok (a == b) W := by
  show (Op.equalIn (9999 + 1) t (.bool a) (.bool b)).run P W = _
  unfold Op.equalIn
  simp only [Sem.run_bind, run_underlying hu, Result.andThen_ok, Sem.run_pure]
theorem eqSlice {t el : TypeId} (hu : P.underlying t = some (.slice el)) (A : Option Addr) (n c n' c' : Nat) (W : World) : (Op.equal t (.slice A n c) (.slice none n' c')).run P W = .ok A.isNone W := by
  show (Op.equalIn (9999 + 1) t (.slice A n c) (.slice none n' c')).run P W = _
  unfold Op.equalIn
  cases A <;> simp only [Sem.run_bind, run_underlying hu, Result.andThen_ok, Sem.run_pure] <;> rfl
theorem binOp_ok (hI : Inv W0 φ H W) {ρ : Operand → Value} (hρ : VE φ e ρ) {op : BinOp} {t yt : TypeId} {x y : Operand} (h : aop P W0 (.binOp op t x y yt) e H K) : ∃ u, (do eqGuard op t x y (ρ x) (ρ y); binOp op t (ρ x) (ρ y) : Sem Value).run P W = .ok u W ∧ Good W0 φ K u W := by
  have hx := hρ x
  have hy := hρ y
  simp only [aop] at h
  split at h
  · rename_i a b h1 h2
    rw [h1] at hx
    rw [h2] at hy
    have e1 := hx.bool
    have e2 := hy.bool
    split at h
    · rename_i hu
      refine ⟨_, ?_, good_same hI (.v _) h⟩
      simp [e1, e2, eqGuard_at_bool, binOp, eqBool hu]
    · rename_i hu
      refine ⟨_, ?_, good_same hI (.v _) h⟩
      simp [e1, e2, eqGuard_at_bool, binOp, eqBool hu]
    · exact h.elim
  · rename_i a b hnb h1 h2
    rw [h1] at hx
    rw [h2] at hy
    cases hx
    cases hy
    split at h
    · rename_i r hr
      exact ⟨r, abin_run hr t x y W, good_same hI (.v _) h⟩
    · split at h
      · rename_i a' n c n' c' e1 e2 _
        obtain ⟨he, h⟩ := h
        obtain ⟨el, he⟩ := Option.isSome_iff_exists.1 he
        refine ⟨_, ?_, good_same hI (.v _) h⟩
        rw [e1, e2]
        cases a' <;> simp [eqGuard_at_slice, binOp, eqSlice (elt_run he)]
      · rename_i a' n c n' c' e1 e2 _
        obtain ⟨he, h⟩ := h
        obtain ⟨el, he⟩ := Option.isSome_iff_exists.1 he
        refine ⟨_, ?_, good_same hI (.v _) h⟩
        rw [e1, e2]
        cases a' <;> simp [eqGuard_at_slice, binOp, eqSlice (elt_run he)]
      · exact h.elim
  · rename_i b o n n' c' h1 h2
    rw [h1] at hx
    rw [h2] at hy
    generalize ρ x = yx at hx ⊢
    generalize ρ y = yy at hy ⊢
    cases hy
    cases hx with
    | sl hp hnc hcap =>
      split at h
      · obtain ⟨he, h⟩ := h
        obtain ⟨el, he⟩ := Option.isSome_iff_exists.1 he
        refine ⟨_, ?_, good_same hI (.v _) h⟩
        simp [eqGuard_at_slice, binOp, eqSlice (elt_run he)]
      · obtain ⟨he, h⟩ := h
        obtain ⟨el, he⟩ := Option.isSome_iff_exists.1 he
        refine ⟨_, ?_, good_same hI (.v _) h⟩
        simp [eqGuard_at_slice, binOp, eqSlice (elt_run he)]
      · exact h.elim
  · rename_i l l' h1 h2
    rw [h1] at hx
    rw [h2] at hy
    have hg : ∀ (xs ys : List Value) (r : Bool), EqAt P t xs ys r → (eqGuard .eql t x y (.agg xs.toArray) (.agg ys.toArray)).run P W = .ok () W ∧ (eqGuard .neq t x y (.agg xs.toArray) (.agg ys.toArray)).run P W = .ok () W ∧ (Op.equal t (.agg xs.toArray) (.agg ys.toArray)).run P W = .ok r W := by
      intro xs ys r h
      exact ⟨h.1 W, h.1 W, h.2 W⟩
    split at h
    · obtain ⟨xs, ys, r, rfl, rfl, hE, h⟩ := h
      obtain ⟨g1, g2, g3⟩ := hg xs ys r hE
      generalize ρ x = yx at hx ⊢
      generalize ρ y = yy at hy ⊢
      cases hx with
      | agg hx =>
        cases hy with
        | agg hy =>
          rw [hx.reverse_eq, hy.reverse_eq]
          refine ⟨_, ?_, good_same hI (.v _) h⟩
          simp only [Sem.run_bind, g1, Result.andThen_ok, binOp, g3, Sem.run_pure]
    · obtain ⟨xs, ys, r, rfl, rfl, hE, h⟩ := h
      obtain ⟨g1, g2, g3⟩ := hg xs ys r hE
      generalize ρ x = yx at hx ⊢
      generalize ρ y = yy at hy ⊢
      cases hx with
      | agg hx =>
        cases hy with
        | agg hy =>
          rw [hx.reverse_eq, hy.reverse_eq]
          refine ⟨_, ?_, good_same hI (.v _) h⟩
          simp only [Sem.run_bind, g2, Result.andThen_ok, binOp, g3, Sem.run_pure]
    · exact h.elim
  · exact h.elim
end
section
/-! The calculus 'Aw', part 7: one operation, whatever it is. -/
open Go Go.RowKit
set_option linter.unusedVariables false
set_option linter.unusedSimpArgs false
set_option linter.unusedSectionVars false
set_option maxHeartbeats 1000000
variable {P : Program} {W0 W : World} {φ : Phi} {H : AH} {K : AV → AH → Prop} {e : Env}

theorem VR.ptr_addr {φ : Phi} {b o : Nat} {y : Value} (h : VR φ (.ptr b o) y) : ∃ p, φ b = some p ∧ y = .pointer (some ⟨p.g, p.base + o, none⟩) := by
  cases h with | ptr h => exact ⟨_, h, rfl⟩
theorem VR.v_eq {φ : Phi} {x y : Value} (h : VR φ (.v x) y) : y = x := by cases h; rfl


theorem elt_bind {t : TypeId} {i : TyI} (h : (elt P t).bind (tyi P) = some i) : ∃ el, elt P t = some el ∧ tyi P el = some i := by
  simpa [Option.bind_eq_some_iff] using h
theorem slLen_ok {φ : Phi} {x : AV} {y : Value} (h : VR φ x y) {n : Nat} (hn : slLen x = some n) : ∃ A c, y = .slice A n c := by
  cases h with
  | v y =>
    cases y <;> simp only [slLen, Option.some.injEq] at hn <;> first | cases hn | skip
    exact ⟨_, _, rfl⟩
  | sl _ _ _ => simp only [slLen, Option.some.injEq] at hn; subst hn; exact ⟨_, _, rfl⟩
  | sl0 a => simp only [slLen, Option.some.injEq] at hn; subst hn; exact ⟨_, _, rfl⟩
  | _ => simp [slLen] at hn
theorem builtin_ok (hI : Inv W0 φ H W) {b : Builtin} {ts : List TypeId} {xs : List AV} {ys : List Value} (hv : VRs φ xs ys) (ty : TypeId) (h : abuiltin P W0 b ts xs H K) (consts : Array Bool) :
    ∃ u W', (builtin b ts.toArray ty consts ys.toArray).run P W = .ok (.value u) W' ∧ Good W0 φ K u W' := by
  unfold abuiltin at h
  split at h
  · rename_i t s
    cases hv with
    | cons h1 h2 =>
      cases h2
      have := h1.v_eq
      subst this
      obtain ⟨hs, hk⟩ := h
      exact ⟨_, W, by simp [builtin, Builtin.len_, run_underlying (str_run hs), goInt], good_same hI (.v _) hk⟩
  · rename_i t x _
    cases hv with
    | cons h1 h2 =>
      cases h2
      obtain ⟨he, h⟩ := h
      obtain ⟨el, he⟩ := Option.isSome_iff_exists.1 he
      split at h
      · rename_i n hn
        obtain ⟨A, c, rfl⟩ := lenA_ok h1 hn
        exact ⟨_, W, by simp [builtin, Builtin.len_, run_underlying (elt_run he), goInt], good_same hI (.v _) h⟩
      · exact h.elim
  · rename_i t t' dst src
    cases hv with
    | cons h1 h2 =>
      cases h2 with
      | cons h2 h3 =>
        cases h3
        split at h
        · rename_i el el' he he'
          obtain ⟨y, W', hr, hg⟩ := append_run hI he he' h1 h2 ty h
          exact ⟨y, W', by simp [builtin, hr], hg⟩
        · rename_i el he he'
          split at h
          · rename_i m hi
            have := h2.v_eq
            subst this
            obtain ⟨h0, h⟩ := h
            obtain ⟨k, rfl⟩ := Int.eq_ofNat_of_zero_le h0
            obtain ⟨y, W', hr, hg⟩ := appendz_run hI he hi h1 k ty (by simpa using h)
            exact ⟨y, W', by simp [builtin, hr], hg⟩
          · exact h.elim
        · exact h.elim
  · rename_i t b o n c
    cases hv with
    | cons h1 h2 =>
      cases h2
      obtain ⟨he, h⟩ := h
      obtain ⟨el, he⟩ := Option.isSome_iff_exists.1 he
      cases h1 with
      | slc _ _ _ => exact ⟨_, W, by simp [builtin, Builtin.cap_, run_underlying (elt_run he), goInt], good_same hI (.v _) h⟩
  · rename_i t t' dst src
    cases hv with
    | cons h1 h2 =>
      cases h2 with
      | cons h2 h3 =>
        cases h3
        split at h
        · rename_i i b o n m hi hb hm
          split at h
          · rename_i B new hB hnew
            obtain ⟨el, he, hi⟩ := elt_bind hi
            obtain ⟨g1, g2, g3, g4⟩ := h
            obtain ⟨y, W', hr, hg⟩ := copy_run (t' := t') hI he hi h1 h2 hb hm hB hnew g1 g2 g3 ty g4
            exact ⟨y, W', by simp [builtin, hr], hg⟩
          · exact h.elim
        · exact h.elim
  · rename_i k a k' b
    cases hv with
    | cons h1 h2 =>
      cases h2 with
      | cons h2 h3 =>
        cases h3
        have e1 := h1.v_eq
        have e2 := h2.v_eq
        subst e1
        subst e2
        exact ⟨_, W, by simp [builtin, Builtin.min_, Builtin.min2], good_same hI (.v _) h⟩
  · rename_i k a k' b
    cases hv with
    | cons h1 h2 =>
      cases h2 with
      | cons h2 h3 =>
        cases h3
        have e1 := h1.v_eq
        have e2 := h2.v_eq
        subst e1
        subst e2
        exact ⟨_, W, by simp [builtin, Builtin.max_, Builtin.max2], good_same hI (.v _) h⟩
  · rename_i t x _
    cases hv with
    | cons h1 h2 =>
      cases h2
      split at h
      · rename_i i b o n hi hb
        split at h
        · rename_i B hB
          obtain ⟨el, he, hi⟩ := elt_bind hi
          obtain ⟨g1, g2, g3, g4, g5⟩ := h
          obtain ⟨y, W', hr, hg⟩ := clear_run hI he hi (slBlk_ok h1 hb) hB g1 g2 g3 g4 ty g5
          exact ⟨y, W', by simp [builtin, hr], hg⟩
        · exact h.elim
      · exact h.elim
  · exact h.elim

theorem rdArr_ok {φ : Phi} {l : List AV} {ys : List Value} (hv : VRs φ l ys) {t : TypeId} {i : TyI} (hi : tyi P t = some i) (ha : i.agg = true ∨ i.size = 1) (off : Nat) (ho : off + i.size ≤ l.length) (W : World) :
    ∃ u, (part t ys.toArray off).run P W = .ok u W ∧ VR φ (mkv i.agg ((l.drop off).take i.size)) u := by
  obtain ⟨d, j, z, hd, hj, hz, rfl⟩ := tyi_run hi
  simp only at ha ho
  have hlen := hv.length
  by_cases hag : isAggD d = true
  · refine ⟨.agg ((ys.drop off).take j.size).toArray, ?_, ?_⟩
    · simp only [part, Sem.run_bind, isAgg_run hd, hag, if_true, sizeOf_run hj, Result.andThen_ok, Sem.run_pure]
      congr 2
      apply Array.ext'
      simp [List.take_drop, Nat.add_comm]
    · simp only [mkv, hag, if_true]
      exact .agg ((hv.drop off).take j.size)
  · have h1 : j.size = 1 := by
      rcases ha with ha | ha
      · exact absurd ha hag
      · exact ha
    simp only [Bool.not_eq_true] at hag
    have hlt : off < ys.length := by omega
    refine ⟨ys[off], ?_, ?_⟩
    · simp only [part, Sem.run_bind, isAgg_run hd, hag, Bool.false_eq_true, if_false, Result.andThen_ok]
      simp [hlt]
    · obtain ⟨y, hy, hvv⟩ := hv.get off l[off] (List.getElem?_eq_getElem (by omega))
      rw [List.getElem?_eq_getElem hlt] at hy
      cases hy
      have : (l.drop off).take 1 = [l[off]] := by
        rw [List.drop_eq_getElem_cons (by omega)]
        rfl
      simp only [mkv, hag, h1, this, Bool.false_eq_true, if_false, List.headD_cons]
      exact hvv

theorem ints_ok {φ : Phi} : {l : List AV} → {ys : List Value} → VRs φ l ys → {ns : List Int} → intsOf l = some ns → ys = ns.map (Value.int .u8)
  | _, _, .nil, ns, h => by simp [intsOf] at h; subst h; rfl
  | _, _, .cons (a := a) (y := y) (l := l) (ys := ys) h1 h2, ns, h => by
    unfold intsOf at h
    split at h
    · rename_i heq; cases heq
    · rename_i n l' heq
      injection heq with e1 e2
      subst e1
      subst e2
      simp only [Option.map_eq_some_iff] at h
      obtain ⟨ms, hm, rfl⟩ := h
      rw [ints_ok h2 hm, h1.v_eq]
      rfl
    · cases h

theorem aop_ok (hI : Inv W0 φ H W) {ρ : Operand → Value} (hρ : VE φ e ρ) {o : Oper} (h : aop P W0 o.op e H K) : OpOk P W0 φ K ρ o W := by
  obtain ⟨dst, op, ty, pos, after, guard⟩ := o
  cases op with
  | move x => exact .val rfl (good_same hI (hρ x) h)
  | assign x => exact .val rfl (good_same hI (hρ x) h)
  | pick c a b =>
    simp only [aop] at h
    split at h
    · rename_i t hc
      have h1 := hρ c
      rw [hc] at h1
      have h2 := h1.v_eq
      refine .val (y := if t = true then ρ a else ρ b) (W' := W) ?_ ?_
      · simp [execOp, h2, asBool]
      · refine good_same hI ?_ h
        split
        · exact hρ a
        · exact hρ b
    · exact h.elim
  | alloc t =>
    simp only [aop] at h
    split at h
    · rename_i i hi
      obtain ⟨d, j, z, hd, hj, hz, rfl⟩ := tyi_run hi
      obtain ⟨hI', hx⟩ := good_new hI (VRs.vs z.cells.toList) z.cells.toList.length t (C := z.cells) (by simp)
      refine .ins (s := Instr.alloc t true (.tuple #[])) rfl (y := .pointer (some ⟨W.heap.size, 0, none⟩)) (W' := _) ?_ ⟨_, _, _, .ptr (updφ_at _ _ _), hI', hx, h⟩
      simp [Instr.alloc, zero_run hj hz, newVar, newRow]
      try rfl
    · exact h.elim
  | box t x =>
    simp only [aop] at h
    split at h
    · rename_i cs hcs
      have hv := cells_ok (hρ x) hcs
      obtain ⟨hI', hx⟩ := good_new hI hv cs.length t (C := (ρ x).cells) (by simp)
      refine .ins (s := Instr.box t (ρ x)) rfl (y := .pointer (some ⟨W.heap.size, 0, none⟩)) (W' := _) ?_ ⟨_, _, _, .ptr (updφ_at _ _ _), hI', hx, h⟩
      simp [Instr.box, newVar, newRow]
      try rfl
    · exact h.elim
  | build t parts =>
    simp only [aop] at h
    split at h
    · rename_i i pl hi hpl
      split at h
      · rename_i cs hcs
        obtain ⟨p1, p2⟩ := parts_ok hρ parts
        obtain ⟨y, hr, hv⟩ := build_run (qs := parts.map fun (i, x) => (i, ρ x)) hI hi hpl p1 p2 hcs
        exact .ins rfl hr (good_same hI hv h)
      · exact h.elim
    · rename_i i hi hpl
      split at h
      · rename_i j hj
        obtain ⟨⟨n, el⟩, ha, hj⟩ := Option.bind_eq_some_iff.1 hj
        split at h
        · rename_i cs hcs
          obtain ⟨p1, p2⟩ := parts_ok hρ parts
          obtain ⟨y, hr, hv⟩ := buildArr_run (qs := parts.map fun (i, x) => (i, ρ x)) hI hi ha hj p1 p2 hcs
          exact .ins rfl hr (good_same hI hv h)
        · exact h.elim
      · exact h.elim
    · exact h.elim
  | buildSlice t len parts =>
    simp only [aop] at h
    split at h
    · rename_i i hi
      obtain ⟨el, he, hi⟩ := elt_bind hi
      obtain ⟨g1, g2, h⟩ := h
      split at h
      · rename_i cs hcs
        obtain ⟨p1, p2⟩ := parts_ok hρ parts
        obtain ⟨y, W', hr, hg⟩ := buildSlice_run (qs := parts.map fun (i, x) => (i, ρ x)) hI he hi len g1 g2 p1 p2 hcs h
        exact .ins rfl hr hg
      · exact h.elim
    · exact h.elim
  | load t a =>
    simp only [aop] at h
    split at h
    · rename_i i hi
      obtain ⟨ha, h⟩ := h
      split at h
      · rename_i cs hcs
        obtain ⟨u, hr, hv⟩ := load_run hI hi ha (hρ a) hcs
        exact .ins rfl hr (good_same hI hv h)
      · exact h.elim
    · exact h.elim
  | store t a x =>
    simp only [aop] at h
    split at h
    · rename_i i b o hi ha
      have h1 := hρ a
      rw [ha] at h1
      obtain ⟨W', hr, hg⟩ := store_run hI hi h1 (hρ x) h
      exact .inr (.inl ⟨W', by simp [execOp, hr], hg⟩)
    · exact h.elim
  | nilCheck x =>
    simp only [aop] at h
    have h1 := hρ x
    split at h
    · rename_i b o hx
      rw [hx] at h1
      obtain ⟨p, hp, hy⟩ := h1.ptr_addr
      refine .val (y := ρ x) (W' := W) ?_ (good_same hI h1 h)
      simp [execOp, hy]
    · rename_i a hx
      rw [hx] at h1
      have hy := h1.v_eq
      refine .val (y := ρ x) (W' := W) ?_ (good_same hI h1 h)
      simp [execOp, hy]
    · rename_i f c hx
      rw [hx] at h1
      refine .val (y := ρ x) (W' := W) ?_ (good_same hI h1 h)
      generalize hz : ρ x = z at h1
      cases h1
      simp [execOp, hz]
    · exact h.elim
  | binOp op t x y yt =>
    obtain ⟨u, hr, hg⟩ := binOp_ok hI hρ h
    exact .ins rfl hr hg
  | unOp op t x =>
    simp only [aop] at h
    split at h
    · rename_i a ha
      split at h
      · rename_i r hr
        have h1 := hρ x
        rw [ha] at h1
        exact .ins (s := Op.unary op (ρ x)) rfl (by rw [h1.v_eq]; exact aun_run hr W) (good_same hI (.v _) h)
      · exact h.elim
    · exact h.elim
  | convert src dst x =>
    simp only [aop] at h
    have h1 := hρ x
    split at h
    · rename_i k n hx
      rw [hx] at h1
      split at h
      · rename_i k' hk hs
        obtain ⟨d, hd⟩ := Option.isSome_iff_exists.1 hs
        refine .ins (s := convert src dst (ρ x)) rfl (W' := W) ?_ (good_same hI (.v _) h)
        rw [h1.v_eq]
        simp [convert, run_underlying hd, run_underlying (intKd_run hk), Conv.intToInt]
      · exact h.elim
    · rename_i s hx
      rw [hx] at h1
      split at h
      · rename_i hs
        simp only [Bool.and_eq_true] at hs
        refine .ins (s := convert src dst (ρ x)) rfl (W' := W) ?_ (good_same hI (.v _) h)
        rw [h1.v_eq]
        simp [convert, run_underlying (str_run hs.1), run_underlying (str_run hs.2)]
      · exact h.elim
    · rename_i b o n hx
      rw [hx] at h1
      split at h
      · rename_i e' he hs
        obtain ⟨hk, h⟩ := h
        split at h
        · rename_i l hl
          simp only [Option.bind_eq_some_iff] at hl
          obtain ⟨cs, hcs, hl⟩ := hl
          obtain ⟨A, m, c, ys, hy, hv, hlen, hnm, h0, hc⟩ := hI.slc h1 hcs
          have hys := ints_ok hv hl
          refine .ins (s := convert src dst (ρ x)) rfl (W' := W) ?_ (good_same hI (.v _) h)
          generalize ρ x = z at h1 hy ⊢
          cases h1 with
          | sl hp hnc hcap =>
            rename_i cc ad p
            injection hy with e1 e2 e3
            subst e1
            subst e2
            have hlen2 : l.length = n := by
              have := hv.length
              rw [hys, List.length_map] at this
              omega
            rcases hcap with hc0 | ⟨rfl, _⟩
            · have hn0 : n = 0 := by omega
              subst hn0
              obtain rfl : l = [] := List.eq_nil_of_length_eq_zero hlen2
              have := run_bytesToString (P := P) W ad 0 cc [] (by simp [loadCells, loadCellsFrom])
              simp only [List.foldl_nil] at this
              rw [run_convert_bytes_string W src dst e' _ 0 cc (elt_run he) (intKd_run hk) (str_run hs), this]
              rfl
            · exact run_convert_bytes_arg W src e' (elt_run he) (intKd_run hk) p.g (p.base + o) n cc l hlen2 (fun i hi => by
                have := hc _ rfl i (.int .u8 (l.getD i 0)) (by rw [hys]; simp [List.getD_eq_getElem?_getD, List.getElem?_eq_getElem (show i < l.length by omega)])
                rwa [Addr.add_lit] at this) dst (str_run hs)
        · exact h.elim
      · exact h.elim
    · rename_i n' c' hx
      rw [hx] at h1
      split at h
      · rename_i e' he hs
        obtain ⟨hk, h⟩ := h
        refine .ins (s := convert src dst (ρ x)) rfl (W' := W) ?_ (good_same hI (.v _) h)
        rw [h1.v_eq]
        simp [convert, run_underlying (elt_run he), run_underlying (str_run hs), run_underlying (intKd_run hk), Conv.bytesToString]
      · exact h.elim
    · exact h.elim
  | makeFunc fn first caps =>
    simp only [aop] at h
    split at h
    · rename_i f
      obtain ⟨g1, h⟩ := h
      have hfirst : first = #[] := Array.eq_empty_of_size_eq_zero g1
      subst hfirst
      refine .ins (s := Instr.makeFunc (.func f) ((#[] : Array Operand).map ρ) (caps.map ρ)) rfl (y := .func (.func f) #[] (caps.toList.map ρ).toArray) (W' := W) ?_ (good_same hI (.fn (hρ.list caps.toList)) h)
      have : (caps.toList.map ρ).toArray = caps.map ρ := by apply Array.ext'; simp
      simp [Instr.makeFunc, this]
    · exact h.elim
  | makeSlice t l c =>
    simp only [aop] at h
    split at h
    · rename_i i n m hi hl hc
      obtain ⟨el, he, hi⟩ := elt_bind hi
      obtain ⟨rfl, g1, g2, g3, g4, h⟩ := h
      have h1 := hρ l
      have h2 := hρ c
      rw [hl] at h1
      rw [hc] at h2
      obtain ⟨y, W', hr, hg⟩ := makeSlice_run hI he hi g1 g2 g3 g4 h
      exact .ins (s := Instr.makeSlice t (ρ l) (ρ c)) rfl (by rw [h1.v_eq, h2.v_eq]; exact hr) hg
    · exact h.elim
  | slice t x lo hi mx =>
    simp only [aop] at h
    have hb : ∀ o : Option Operand, (∀ a, o.map (ev e) = some a → ∃ b, o.map ρ = some b ∧ VR φ a b) ∧ (o.map (ev e) = none → o.map ρ = none) := by
      intro o
      cases o with
      | none => exact ⟨fun a ha => (by cases ha), fun _ => rfl⟩
      | some o => exact ⟨fun a ha => ⟨ρ o, rfl, by cases ha; exact hρ o⟩, fun ha => (by cases ha)⟩
    have h1 := hρ x
    split at h
    · rename_i s hx
      obtain ⟨g1, h⟩ := h
      rw [hx] at h1
      obtain ⟨u, hr, hg⟩ := slice_run hI h1 (hb lo).1 (hb lo).2 (hb hi).1 (hb hi).2 h (.inl ⟨⟨s, rfl⟩, g1⟩)
      exact .ins (s := Instr.sliceAt t (ρ x) (lo.map ρ) (hi.map ρ) none) rfl hr hg
    · rename_i hns
      split at h
      · rename_i i hi'
        obtain ⟨el, he, hi'⟩ := elt_bind hi'
        obtain ⟨d, jj, z, hd, hj, hz, rfl⟩ := tyi_run hi'
        obtain ⟨u, hr, hg⟩ := slice_run hI h1 (hb lo).1 (hb lo).2 (hb hi).1 (hb hi).2 h (.inr ⟨fun ⟨s, hs⟩ => hns s hs, el, jj, he, hj, rfl⟩)
        exact .ins (s := Instr.sliceAt t (ρ x) (lo.map ρ) (hi.map ρ) none) rfl hr hg
      · exact h.elim
    · rename_i m
      split at h
      · rename_i i hi'
        obtain ⟨el, he, hi'⟩ := elt_bind hi'
        obtain ⟨d, jj, z, hd, hj, hz, rfl⟩ := tyi_run hi'
        obtain ⟨u, hr, hg⟩ := slice3_run hI h1 (hb lo).1 (hb lo).2 (hb hi).1 (mx := some (ev e m)) (mx' := some (ρ m)) (fun a ha => ⟨_, rfl, by cases ha; exact hρ m⟩) h ⟨el, jj, he, hj, rfl⟩
        exact .ins (s := Instr.sliceAt t (ρ x) (lo.map ρ) (hi.map ρ) (some (ρ m))) rfl hr hg
      · exact h.elim
  | fieldAddr t x f =>
    simp only [aop] at h
    split at h
    · rename_i off ft hf
      obtain ⟨fs, g, hu, hg, rfl, rfl⟩ := fldt_run hf
      have h1 := hρ x
      split at h
      · rename_i i b o hi hx
        obtain ⟨d, j, z, hd, hj, hz, rfl⟩ := tyi_run hi
        obtain ⟨hs, h⟩ := h
        rw [hx] at h1
        obtain ⟨p, hp, hy⟩ := h1.ptr_addr
        refine .ins (s := Instr.fieldAt t (ρ x) f) rfl (y := .pointer (some ⟨p.g, p.base + (o + g.offset), none⟩)) (W' := W) ?_ (good_same hI (.ptr hp) h)
        simp only at hs
        simp [Instr.fieldAt, run_underlying hu, hg, hy, Instr.sureAddr, fieldPlace, sizeOf_run hj, hs, Addr.add_lit, Nat.add_assoc]
      · rename_i i a hi hx
        obtain ⟨d, j, z, hd, hj, hz, rfl⟩ := tyi_run hi
        obtain ⟨hs, h⟩ := h
        rw [hx] at h1
        refine .ins (s := Instr.fieldAt t (ρ x) f) rfl (W' := W) ?_ (good_same hI (.v _) h)
        simp only at hs
        rw [h1.v_eq]
        simp [Instr.fieldAt, run_underlying hu, hg, Instr.sureAddr, fieldPlace, sizeOf_run hj, hs]
      · exact h.elim
    · exact h.elim
  | field t x f =>
    simp only [aop] at h
    split at h
    · rename_i off ft hf
      obtain ⟨fs, g, hu, hg, rfl, rfl⟩ := fldt_run hf
      have h1 := hρ x
      split at h
      · rename_i i l hi hx
        obtain ⟨g1, g2, h⟩ := h
        rw [hx] at h1
        generalize hz : ρ x = z at h1
        cases h1 with
        | agg h1 =>
          rename_i ys
          obtain ⟨u, hr, hv⟩ := rdArr_ok h1 hi g2 g.offset g1 W
          refine .ins (s := Instr.field t (ρ x) f) rfl (W' := W) ?_ (good_same hI hv h)
          rw [hz]
          simp [Instr.field, run_underlying hu, hg, asAgg, hr]
      · exact h.elim
    · exact h.elim
  | indexAddr t x ix =>
    simp only [aop] at h
    split at h
    · rename_i n el ha
      have hu : P.underlying t = some (.array n el) := by
        unfold arrt at ha
        split at ha
        · rename_i n' e' hu; simp at ha; obtain ⟨rfl, rfl⟩ := ha; exact hu
        · cases ha
      have h1 := hρ x
      have h2 := hρ ix
      split at h
      · rename_i i b o k j hi hx hix
        obtain ⟨g1, g2, h⟩ := h
        obtain ⟨d, jj, z, hd, hj, hz, rfl⟩ := tyi_run hi
        rw [hx] at h1
        rw [hix] at h2
        generalize hz' : ρ x = zz at h1
        cases h1 with
        | ptr hp =>
          rename_i p
          refine .ins (s := Instr.indexAt t (ρ x) (ρ ix)) rfl (y := .pointer (some ⟨p.g, p.base + (o + j.toNat * jj.size), none⟩)) (W' := W) ?_ (good_same hI (.ptr hp) h)
          rw [h2.v_eq, hz']
          simp [Instr.indexAt, Instr.sureAddr, asAddr, run_underlying hu, asIntOf, g1, g2, sizeOf_run hj, Addr.add_lit, Nat.add_assoc]
      · rename_i i a k j hi hx hix
        obtain ⟨g1, g2, h⟩ := h
        obtain ⟨d, jj, z, hd, hj, hz, rfl⟩ := tyi_run hi
        rw [hx] at h1
        rw [hix] at h2
        refine .ins (s := Instr.indexAt t (ρ x) (ρ ix)) rfl (W' := W) ?_ (good_same hI (.v _) h)
        rw [h1.v_eq, h2.v_eq]
        simp [Instr.indexAt, Instr.sureAddr, asAddr, run_underlying hu, asIntOf, g1, g2, sizeOf_run hj]
      · exact h.elim
    split at h
    · rename_i i b o n k j hi hx hix
      obtain ⟨el, he, hi⟩ := elt_bind hi
      obtain ⟨g1, g2, g3, h⟩ := h
      obtain ⟨d, jj, z, hd, hj, hz, rfl⟩ := tyi_run hi
      have h1 := hρ x
      have h2 := hρ ix
      rw [hx] at h1
      rw [hix] at h2
      split at g3
      · rename_i B hB
        obtain ⟨p0, hp0, k1, k2, k3, C, et, hC, k4, k5⟩ := hI.blks b B hB
        generalize hz' : ρ x = zz at h1
        cases h1 with
        | sl hp hnc hcap =>
          rename_i cc ad p
          rcases hcap with hc0 | ⟨rfl, _⟩
          · omega
          refine .ins (s := Instr.indexAt t (ρ x) (ρ ix)) rfl (y := .pointer (some ⟨p.g, p.base + (o + j.toNat * jj.size), none⟩)) (W' := W) ?_ (good_same hI (.ptr hp) h)
          rw [h2.v_eq, hz']
          simp [Instr.indexAt, run_underlying (elt_run he), asIntOf, g1, g2, sizeOf_run hj, Addr.add_lit, Nat.add_assoc]
      · exact g3.elim
    · rename_i i b o n c' k j hi hx hix
      obtain ⟨el, he, hi⟩ := elt_bind hi
      obtain ⟨g1, g2, g3, h⟩ := h
      obtain ⟨d, jj, z, hd, hj, hz, rfl⟩ := tyi_run hi
      have h1 := hρ x
      have h2 := hρ ix
      rw [hx] at h1
      rw [hix] at h2
      split at g3
      · rename_i B hB
        obtain ⟨p0, hp0, k1, k2, k3, C, et, hC, k4, k5⟩ := hI.blks b B hB
        generalize hz' : ρ x = zz at h1
        cases h1 with
        | slc hp hnc hcap =>
          rename_i ad p
          rcases hcap with hc0 | ⟨rfl, _⟩
          · omega
          refine .ins (s := Instr.indexAt t (ρ x) (ρ ix)) rfl (y := .pointer (some ⟨p.g, p.base + (o + j.toNat * jj.size), none⟩)) (W' := W) ?_ (good_same hI (.ptr hp) h)
          rw [h2.v_eq, hz']
          simp [Instr.indexAt, run_underlying (elt_run he), asIntOf, g1, g2, sizeOf_run hj, Addr.add_lit, Nat.add_assoc]
      · exact g3.elim
    · rename_i i a n c k j hi hx hix
      obtain ⟨el, he, hi⟩ := elt_bind hi
      obtain ⟨g1, g2, h⟩ := h
      obtain ⟨d, jj, z, hd, hj, hz, rfl⟩ := tyi_run hi
      have h1 := hρ x
      have h2 := hρ ix
      rw [hx] at h1
      rw [hix] at h2
      refine .ins (s := Instr.indexAt t (ρ x) (ρ ix)) rfl (W' := W) ?_ (good_same hI (.v _) h)
      rw [h1.v_eq, h2.v_eq]
      simp [Instr.indexAt, run_underlying (elt_run he), asIntOf, g1, g2, sizeOf_run hj]
    · exact h.elim
  | index t x ix =>
    simp only [aop] at h
    have h1 := hρ x
    have h2 := hρ ix
    split at h
    · rename_i s k j hx hix
      rw [hx] at h1
      rw [hix] at h2
      obtain ⟨g1, g2, b, g3, h⟩ := h
      refine .ins (s := Instr.index t (ρ x) (ρ ix)) rfl (W' := W) ?_ (good_same hI (.v _) h)
      rw [h1.v_eq, h2.v_eq]
      simp [Instr.index, run_underlying (str_run g1), asIntOf, g2, g3]
    · rename_i l k j hx hix
      rw [hx] at h1
      rw [hix] at h2
      split at h
      · rename_i n el hu
        split at h
        · rename_i i hi
          obtain ⟨g1, g2, g3, g4, h⟩ := h
          obtain ⟨d, jj, z, hd, hj, hz, rfl⟩ := tyi_run hi
          simp only at g3 g4 h
          generalize hz' : ρ x = zz at h1
          cases h1 with
          | agg h1 =>
            rename_i ys
            have hle : j.toNat * jj.size + jj.size ≤ l.length := by
              have : (j.toNat + 1) * jj.size ≤ n * jj.size := Nat.mul_le_mul_right _ (by omega)
              rw [Nat.add_mul] at this
              omega
            obtain ⟨u, hr, hv⟩ := rdArr_ok h1 hi g4 (j.toNat * jj.size) hle W
            refine .ins (s := Instr.index t (ρ x) (ρ ix)) rfl (W' := W) ?_ (good_same hI hv h)
            rw [h2.v_eq, hz']
            simp [Instr.index, run_underlying hu, asIntOf, g1, g2, sizeOf_run hj, hr]
        · exact h.elim
      · exact h.elim
    · exact h.elim
  | extract x i =>
    simp only [aop] at h
    split at h
    · rename_i l hx
      split at h
      · rename_i a ha
        have h1 := hρ x
        rw [hx] at h1
        generalize hz' : ρ x = zz at h1
        cases h1 with
        | tup h1 =>
          rename_i ys
          obtain ⟨y, hy, hv⟩ := h1.get i a ha
          refine .ins (s := Instr.extract (ρ x) i) rfl (W' := W) ?_ (good_same hI hv h)
          rw [hz']
          simp [Instr.extract, hy]
      · exact h.elim
    · exact h.elim
  | call c =>
    simp only [aop] at h
    split at h
    · rename_i b hb
      have hv := hρ.list c.args.toList
      have hm : (c.args.toList.map ρ).toArray = c.args.map ρ := by apply Array.ext'; simp
      have key := fun consts => builtin_ok hI hv ty h consts
      rw [hm] at key
      have hq : c.argTypes.toList.toArray = c.argTypes := by simp
      rw [hq] at key
      left
      simp only [execOp, resolve, hb, Sem.run_bind, Sem.run_pure, Result.andThen_ok, invoke]
      exact key _
    · rename_i f hb
      split at h
      · rename_i g caps hf
        have h1 := hρ f
        rw [hf] at h1
        generalize hz' : ρ f = zz at h1
        cases h1 with
        | fn h1 =>
          rename_i ys
          refine callG_ok hI ((hρ.list c.args.toList).append h1) h fun W => ?_
          simp only [execOp, resolve, hb, hz', Deferred.ofValue, Sem.run_bind, Sem.run_pure, Result.andThen_ok, invoke]
          congr 2
          simp
      · exact h.elim
    · exact h.elim
  | _ => exact h.elim
end
section
/-! The calculus 'Aw', part 8a: regions whose order is drawn. -/
open Go Go.RowKit
set_option linter.unusedVariables false
set_option linter.unusedSimpArgs false
set_option linter.unusedSectionVars false
variable {P : Program} {W0 : World}

def putA (d : Option Nat) (v : AV) (e : Env) : Env := match d with | some t => upd e t v | none => e
/-- The temporary that a guard looks at. -/
def gtmp (all : Array Oper) (j : Nat) : Option Nat := (all[j]?).bind (·.dst)
def want1 (all : Array Oper) (e : Env) (o : Oper) : Option Bool := match o.guard with
  | none => some true
  | some (j, w) => match gtmp all j with
    | some t => match e t with
      | .v (.bool b) => some (b == w)
      | .v (.tuple _) => some false
      | _ => none
    | none => none
/-- One operation, with its guard. -/
def aop1 (P : Program) (W0 : World) (all : Array Oper) (o : Oper) (K : Env → AH → Prop) (e : Env) (H : AH) : Prop := match want1 all e o with
  | some true => aop P W0 o.op e H fun v H' => K (putA o.dst v e) H'
  | some false => K (putA o.dst (.v undef) e) H
  | none => False

theorem aop_congr {op : Op} {e e' : Env} {H : AH} {K : AV → AH → Prop} (h : ∀ x ∈ op.operands.toList, ev e x = ev e' x) : aop P W0 op e H K = aop P W0 op e' H K := by
  cases op with
  | build t parts =>
    have : (parts.toList.map fun p => (p.1, ev e p.2)) = parts.toList.map fun p => (p.1, ev e' p.2) := List.map_congr_left fun p hp => by rw [h p.2 (by simp [Op.operands]; exact ⟨p.1, by simpa using hp⟩)]
    simp only [aop, this]
  | buildSlice t len parts =>
    have : (parts.toList.map fun p => (p.1, ev e p.2)) = parts.toList.map fun p => (p.1, ev e' p.2) := List.map_congr_left fun p hp => by rw [h p.2 (by simp [Op.operands]; exact ⟨p.1, by simpa using hp⟩)]
    simp only [aop, this]
  | makeFunc f first caps =>
    have : caps.toList.map (ev e) = caps.toList.map (ev e') := List.map_congr_left fun p hp => h p (by simp [Op.operands]; exact .inr (by simpa using hp))
    simp only [aop, this]
  | call c =>
    have h1 : c.args.toList.map (ev e) = c.args.toList.map (ev e') := List.map_congr_left fun p hp => h p (by simp [Op.operands, Call.operands]; exact .inr (by simpa using hp))
    cases hc : c.callee with
    | value f =>
      have h2 : ev e f = ev e' f := h f (by simp [Op.operands, Call.operands, hc])
      simp only [aop, hc, h1, h2]
    | _ => simp only [aop, hc, h1]
  | slice t x lo hi mx =>
    have h0 : ev e x = ev e' x := h x (by simp [Op.operands])
    have h1 : lo.map (ev e) = lo.map (ev e') := by
      cases lo with
      | none => rfl
      | some l => simp [h l (by simp [Op.operands])]
    have h2 : hi.map (ev e) = hi.map (ev e') := by
      cases hi with
      | none => rfl
      | some l => simp [h l (by simp [Op.operands])]
    cases mx with
    | none =>
      simp only [aop, h0, h1, h2]
      generalize ev e' x = u
      cases u with
      | v y => cases y <;> rfl
      | _ => rfl
    | some m => simp only [aop, h0, h1, h2, h m (by simp [Op.operands])]
  | _ =>
    simp only [aop]
    try (simp only [Op.operands, List.mem_cons, List.not_mem_nil, or_false, forall_eq_or_imp, forall_eq] at h)
    try simp only [h]

theorem ite_mono {c : Prop} [Decidable c] {A A' B B' : Prop} (ha : A → A') (hb : B → B') : (if c then A else B) → if c then A' else B' := by
  split <;> assumption
theorem astore_mono {H : AH} {n b o : Nat} {x : AV} {K K' : AV → AH → Prop} (hk : ∀ v H', K v H' → K' v H') (h : astore H n b o x K) : astore H n b o x K' := by
  unfold astore at *
  split at h
  · exact ⟨h.1, h.2.1, h.2.2.1, hk _ _ h.2.2.2⟩
  · exact h
theorem aappend_mono {H : AH} {t : TypeId} {d s : AV} {K K' : AV → AH → Prop} (hk : ∀ v H', K v H' → K' v H') (h : aappend P W0 H t d s K) : aappend P W0 H t d s K' := by
  unfold aappend at *
  split at h
  case h_2 => exact h
  split at h
  case h_2 => exact h
  obtain ⟨h1, h2, h3, h4, h⟩ := h
  refine ⟨h1, h2, h3, h4, ?_⟩
  split at h
  · refine ⟨h.1, ?_⟩
    have h5 := h.2
    split at h5
    · rename_i hm; rw [if_pos hm]; exact hk _ _ h5
    · rename_i hm; rw [if_neg hm]; exact hk _ _ h5
  · refine ⟨h.1, ?_⟩
    have h5 := h.2
    split at h5
    · rename_i hm; rw [if_pos hm]; exact hk _ _ h5
    · rename_i hm; rw [if_neg hm]; exact hk _ _ h5
  · split at h
    · refine ⟨h.1, h.2.1, h.2.2.1, h.2.2.2.1, ?_⟩
      have h5 := h.2.2.2.2
      split at h5
      · rename_i hm; rw [if_pos hm]; exact hk _ _ h5
      · rename_i hm; rw [if_neg hm]; exact hk _ _ h5
    · exact h
  · split at h
    · exact ⟨h.1, h.2.1, h.2.2.1, hk _ _ h.2.2.2⟩
    · exact h
  · exact h
theorem aappendz_mono {H : AH} {t : TypeId} {d : AV} {m : Nat} {K K' : AV → AH → Prop} (hk : ∀ v H', K v H' → K' v H') (h : aappendz P W0 H t d m K) : aappendz P W0 H t d m K' := by
  unfold aappendz at *
  split at h
  · split at h
    · exact ⟨h.1, h.2.1, h.2.2.1, h.2.2.2.1, h.2.2.2.2.1, h.2.2.2.2.2.1, h.2.2.2.2.2.2.1, h.2.2.2.2.2.2.2.1, hk _ _ h.2.2.2.2.2.2.2.2⟩
    · exact h
  · exact h
theorem aslice3_mono {H : AH} {s : Nat} {x : AV} {lo hi mx : Option AV} {K K' : AV → AH → Prop} (hk : ∀ v H', K v H' → K' v H') (h : aslice3 W0 H s x lo hi mx K) : aslice3 W0 H s x lo hi mx K' := by
  unfold aslice3 at *
  split at h
  · split at h
    · split at h
      · exact ⟨h.1, h.2.1, h.2.2.1, h.2.2.2.1, h.2.2.2.2.1, hk _ _ h.2.2.2.2.2⟩
      · exact h
    · exact ⟨h.1, h.2.1, h.2.2.1, h.2.2.2.1, hk _ _ h.2.2.2.2⟩
  · exact h
theorem aslice_mono {H : AH} {s : Nat} {x : AV} {lo hi : Option AV} {K K' : AV → AH → Prop} (hk : ∀ v H', K v H' → K' v H') (h : aslice W0 H s x lo hi K) : aslice W0 H s x lo hi K' := by
  unfold aslice at *
  split at h
  · split at h
    · exact ⟨h.1, h.2.1, h.2.2.1, hk _ _ h.2.2.2⟩
    · exact h
  · split at h
    · split at h
      · exact ⟨h.1, h.2.1, h.2.2.1, h.2.2.2.1, hk _ _ h.2.2.2.2⟩
      · exact h
    · exact h
  · split at h
    · split at h
      · exact ⟨h.1, h.2.1, h.2.2.1, h.2.2.2.1, hk _ _ h.2.2.2.2⟩
      · exact h
    · exact h
  · split at h
    · exact ⟨h.1, h.2.1, hk _ _ h.2.2⟩
    · exact h
  · split at h
    · exact ⟨h.1, h.2.1, h.2.2.1, h.2.2.2.1, hk _ _ h.2.2.2.2⟩
    · exact h
  · exact h
theorem abuiltin_mono {b : Builtin} {ts : List TypeId} {xs : List AV} {H : AH} {K K' : AV → AH → Prop} (hk : ∀ v H', K v H' → K' v H') (h : abuiltin P W0 b ts xs H K) : abuiltin P W0 b ts xs H K' := by
  unfold abuiltin at *
  split at h
  · exact ⟨h.1, hk _ _ h.2⟩
  · refine ⟨h.1, ?_⟩
    have h2 := h.2
    split at h2
    · exact hk _ _ h2
    · exact h2
  · split at h
    · exact aappend_mono hk h
    · split at h
      · exact ⟨h.1, aappendz_mono hk h.2⟩
      · exact h
    · exact h
  · exact ⟨h.1, hk _ _ h.2⟩
  · split at h
    · split at h
      · exact ⟨h.1, h.2.1, h.2.2.1, hk _ _ h.2.2.2⟩
      · exact h
    · exact h
  · exact hk _ _ h
  · exact hk _ _ h
  · split at h
    · split at h
      · exact ⟨h.1, h.2.1, h.2.2.1, h.2.2.2.1, hk _ _ h.2.2.2.2⟩
      · exact h
    · exact h
  · exact h
theorem ACalls.mono {f : FuncId} {args : List AV} {H : AH} {R R' : AV → AH → Prop} (h : ACalls P W0 f args H R) (k : ∀ v H', R v H' → R' v H') : ACalls P W0 f args H R' :=
  ⟨h.1, fun φ W ys hI hv => (h.2 φ W ys hI hv).mono fun e W' ⟨y, v, H', φ', h1, h2, h3, h4, h5⟩ => ⟨y, v, H', φ', h1, h2, h3, h4, k v H' h5⟩⟩

theorem ACallG.mono {f : FuncId} {args : List AV} {H : AH} {R R' : AV → AH → Prop} (h : ACallG P W0 f args H R) (k : ∀ v H', R v H' → R' v H') : ACallG P W0 f args H R' := by
  rcases h with h | h
  · exact .inl (h.mono k)
  · refine .inr fun φ W ys hI hv => ?_
    obtain ⟨y, W', hr, v, H', φ', h1, h2, h3, h4⟩ := h φ W ys hI hv
    exact ⟨y, W', hr, v, H', φ', h1, h2, h3, k _ _ h4⟩
theorem aop_mono {op : Op} {e : Env} {H : AH} {K K' : AV → AH → Prop} (hk : ∀ v H', K v H' → K' v H') (h : aop P W0 op e H K) : aop P W0 op e H K' := by
  cases op with
  | store t a x =>
    simp only [aop] at *
    split at h
    · exact astore_mono hk h
    · exact h
  | slice t x lo hi mx =>
    simp only [aop] at *
    split at h
    · exact ⟨h.1, aslice_mono hk h.2⟩
    · split at h
      · exact aslice_mono hk h
      · exact h
    · split at h
      · exact aslice3_mono hk h
      · exact h
  | call c =>
    simp only [aop] at *
    split at h
    · exact abuiltin_mono hk h
    · split at h
      · exact ACallG.mono h hk
      · exact h
    · exact h
  | binOp op t x y c =>
    simp only [aop] at *
    split at h
    · split at h <;> first | exact hk _ _ h | exact h
    · split at h
      · exact hk _ _ h
      · split at h <;> first | exact ⟨h.1, hk _ _ h.2⟩ | exact h
    · split at h <;> first | exact ⟨h.1, hk _ _ h.2⟩ | exact h
    · split at h
      · obtain ⟨xs, ys, r, h1, h2, h3, h4⟩ := h
        exact ⟨xs, ys, r, h1, h2, h3, hk _ _ h4⟩
      · obtain ⟨xs, ys, r, h1, h2, h3, h4⟩ := h
        exact ⟨xs, ys, r, h1, h2, h3, hk _ _ h4⟩
      · exact h
    · exact h
  | index t x ix =>
    simp only [aop] at *
    split at h
    · obtain ⟨h1, h2, b, h3, h4⟩ := h
      exact ⟨h1, h2, b, h3, hk _ _ h4⟩
    · split at h
      · split at h
        · exact ⟨h.1, h.2.1, h.2.2.1, h.2.2.2.1, hk _ _ h.2.2.2.2⟩
        · exact h
      · exact h
    · exact h
  | move x => exact hk _ _ h
  | assign x => exact hk _ _ h
  | pick c a b => simp only [aop] at *; split at h <;> first | exact hk _ _ h | exact h
  | alloc t => simp only [aop] at *; split at h <;> first | exact hk _ _ h | exact h
  | box t x => simp only [aop] at *; split at h <;> first | exact hk _ _ h | exact h
  | build t parts =>
    simp only [aop] at *
    split at h
    · split at h <;> first | exact hk _ _ h | exact h
    · split at h
      · split at h <;> first | exact hk _ _ h | exact h
      · exact h
    · exact h
  | buildSlice t len parts =>
    simp only [aop] at *
    split at h
    · refine ⟨h.1, h.2.1, ?_⟩
      have h2 := h.2.2
      split at h2 <;> first | exact hk _ _ h2 | exact h2
    · exact h
  | load t a =>
    simp only [aop] at *
    split at h
    · refine ⟨h.1, ?_⟩
      have h2 := h.2
      split at h2 <;> first | exact hk _ _ h2 | exact h2
    · exact h
  | nilCheck x => simp only [aop] at *; split at h <;> first | exact hk _ _ h | exact h
  | unOp op t x =>
    simp only [aop] at *
    split at h
    · split at h <;> first | exact hk _ _ h | exact h
    · exact h
  | convert s d x =>
    simp only [aop] at *
    split at h
    · split at h <;> first | exact hk _ _ h | exact h
    · split at h
      · rename_i hc; rw [if_pos hc]; exact hk _ _ h
      · exact h.elim
    · split at h
      · refine ⟨h.1, ?_⟩
        have h2 := h.2
        split at h2 <;> first | exact hk _ _ h2 | exact h2
      · exact h
    · split at h <;> first | exact ⟨h.1, hk _ _ h.2⟩ | exact h
    · exact h
  | makeFunc f first caps => simp only [aop] at *; split at h <;> first | exact ⟨h.1, hk _ _ h.2⟩ | exact h
  | makeSlice t l c =>
    simp only [aop] at *
    split at h
    · exact ⟨h.1, h.2.1, h.2.2.1, h.2.2.2.1, h.2.2.2.2.1, hk _ _ h.2.2.2.2.2⟩
    · exact h
  | fieldAddr t x f =>
    simp only [aop] at *
    split at h
    · split at h <;> first | exact ⟨h.1, hk _ _ h.2⟩ | exact h
    · exact h
  | field t x f =>
    simp only [aop] at *
    split at h
    · split at h <;> first | exact ⟨h.1, h.2.1, hk _ _ h.2.2⟩ | exact h
    · exact h
  | indexAddr t x ix =>
    simp only [aop] at *
    split at h
    · split at h <;> first | exact ⟨h.1, h.2.1, hk _ _ h.2.2⟩ | exact h
    · split at h
      · exact ⟨h.1, h.2.1, h.2.2.1, hk _ _ h.2.2.2⟩
      · exact ⟨h.1, h.2.1, h.2.2.1, hk _ _ h.2.2.2⟩
      · exact ⟨h.1, h.2.1, hk _ _ h.2.2⟩
      · exact h
  | extract x i =>
    simp only [aop] at *
    split at h
    · split at h <;> first | exact hk _ _ h | exact h
    · exact h
  | _ => exact h.elim

/-- An operation that changes no memory. -/
def quietOp : Op → Bool
  | .move _ | .assign _ | .pick .. | .build .. | .load .. | .nilCheck _ | .binOp .. | .unOp .. | .convert .. | .makeFunc .. | .slice .. | .fieldAddr .. | .field .. | .indexAddr .. | .index .. | .extract .. => true
  | .call c => match c.callee with
    | .builtin .len => true
    | .builtin .min => true
    | .builtin .max => true
    | .builtin .cap => true
    | _ => false
  | _ => false
/-- What a quiet operation computes. -/
theorem quiet_det {op : Op} (hq : quietOp op = true) {e : Env} {H : AH} {K : AV → AH → Prop} (h : aop P W0 op e H K) : ∃ v, K v H ∧ ∀ K' : AV → AH → Prop, K' v H → aop P W0 op e H K' := by
  cases op with
  | slice t x lo hi mx =>
    have key : ∀ {s : Nat} {x : AV} {lo hi : Option AV}, aslice W0 H s x lo hi K → ∃ v, K v H ∧ ∀ K' : AV → AH → Prop, K' v H → aslice W0 H s x lo hi K' := by
      intro s x lo hi h
      unfold aslice at *
      split at h
      · split at h
        · exact ⟨_, h.2.2.2, fun _ k => ⟨h.1, h.2.1, h.2.2.1, k⟩⟩
        · exact h.elim
      · split at h
        · split at h
          · exact ⟨_, h.2.2.2.2, fun _ k => ⟨h.1, h.2.1, h.2.2.1, h.2.2.2.1, k⟩⟩
          · exact h.elim
        · exact h.elim
      · split at h
        · split at h
          · exact ⟨_, h.2.2.2.2, fun _ k => ⟨h.1, h.2.1, h.2.2.1, h.2.2.2.1, k⟩⟩
          · exact h.elim
        · exact h.elim
      · split at h
        · exact ⟨_, h.2.2, fun _ k => ⟨h.1, h.2.1, k⟩⟩
        · exact h.elim
      · split at h
        · exact ⟨_, h.2.2.2.2, fun _ k => ⟨h.1, h.2.1, h.2.2.1, h.2.2.2.1, k⟩⟩
        · exact h.elim
      · exact h.elim
    have key3 : ∀ {s : Nat} {x : AV} {lo hi mx : Option AV}, aslice3 W0 H s x lo hi mx K → ∃ v, K v H ∧ ∀ K' : AV → AH → Prop, K' v H → aslice3 W0 H s x lo hi mx K' := by
      intro s x lo hi mx h
      unfold aslice3 at *
      split at h
      · split at h
        · split at h
          · exact ⟨_, h.2.2.2.2.2, fun _ k => ⟨h.1, h.2.1, h.2.2.1, h.2.2.2.1, h.2.2.2.2.1, k⟩⟩
          · exact h.elim
        · exact ⟨_, h.2.2.2.2, fun _ k => ⟨h.1, h.2.1, h.2.2.1, h.2.2.2.1, k⟩⟩
      · exact h.elim
    simp only [aop] at *
    split at h
    · obtain ⟨v, h1, h2⟩ := key h.2
      exact ⟨v, h1, fun K' k => ⟨h.1, h2 K' k⟩⟩
    · split at h
      · exact key h
      · exact h.elim
    · split at h
      · exact key3 h
      · exact h.elim
  | call c =>
    simp only [aop] at *
    split at h
    · rename_i b hb
      simp only [quietOp, hb] at hq
      unfold abuiltin at *
      split at h
      · exact ⟨_, h.2, fun _ k => ⟨h.1, k⟩⟩
      · have h2 := h.2
        split at h2
        · exact ⟨_, h2, fun _ k => ⟨h.1, k⟩⟩
        · exact h2.elim
      · simp at hq
      · exact ⟨_, h.2, fun _ k => ⟨h.1, k⟩⟩
      · simp at hq
      · exact ⟨_, h, fun _ k => k⟩
      · exact ⟨_, h, fun _ k => k⟩
      · simp at hq
      · exact h.elim
    · rename_i f hf
      simp [quietOp, hf] at hq
    · exact h.elim
  | binOp op t x y c =>
    simp only [aop] at *
    split at h
    · split at h <;> first | exact ⟨_, h, fun _ k => k⟩ | exact h.elim
    · split at h
      · exact ⟨_, h, fun _ k => k⟩
      · split at h <;> first | exact ⟨_, h.2, fun _ k => ⟨h.1, k⟩⟩ | exact h.elim
    · split at h <;> first | exact ⟨_, h.2, fun _ k => ⟨h.1, k⟩⟩ | exact h.elim
    · split at h
      · obtain ⟨xs, ys, r, h1, h2, h3, h4⟩ := h
        exact ⟨_, h4, fun _ k => ⟨xs, ys, r, h1, h2, h3, k⟩⟩
      · obtain ⟨xs, ys, r, h1, h2, h3, h4⟩ := h
        exact ⟨_, h4, fun _ k => ⟨xs, ys, r, h1, h2, h3, k⟩⟩
      · exact h.elim
    · exact h.elim
  | index t x ix =>
    simp only [aop] at *
    split at h
    · obtain ⟨h1, h2, b, h3, h4⟩ := h
      exact ⟨_, h4, fun _ k => ⟨h1, h2, b, h3, k⟩⟩
    · split at h
      · split at h
        · exact ⟨_, h.2.2.2.2, fun _ k => ⟨h.1, h.2.1, h.2.2.1, h.2.2.2.1, k⟩⟩
        · exact h.elim
      · exact h.elim
    · exact h.elim
  | move x => exact ⟨_, h, fun _ k => k⟩
  | assign x => exact ⟨_, h, fun _ k => k⟩
  | pick c a b => simp only [aop] at *; split at h <;> first | exact ⟨_, h, fun _ k => k⟩ | exact h.elim
  | build t parts =>
    simp only [aop] at *
    split at h
    · split at h <;> first | exact ⟨_, h, fun _ k => k⟩ | exact h.elim
    · split at h
      · split at h <;> first | exact ⟨_, h, fun _ k => k⟩ | exact h.elim
      · exact h.elim
    · exact h.elim
  | load t a =>
    simp only [aop] at *
    split at h
    · have h2 := h.2
      split at h2
      · exact ⟨_, h2, fun _ k => ⟨h.1, k⟩⟩
      · exact h2.elim
    · exact h.elim
  | nilCheck x => simp only [aop] at *; split at h <;> first | exact ⟨_, h, fun _ k => k⟩ | exact h.elim
  | unOp op t x =>
    simp only [aop] at *
    split at h
    · split at h <;> first | exact ⟨_, h, fun _ k => k⟩ | exact h.elim
    · exact h.elim
  | convert s d x =>
    simp only [aop] at *
    split at h
    · split at h <;> first | exact ⟨_, h, fun _ k => k⟩ | exact h.elim
    · split at h
      · rename_i hc; exact ⟨_, h, fun _ k => by rw [if_pos hc]; exact k⟩
      · exact h.elim
    · split at h
      · have h2 := h.2
        split at h2
        · exact ⟨_, h2, fun _ k => ⟨h.1, k⟩⟩
        · exact h2.elim
      · exact h.elim
    · split at h <;> first | exact ⟨_, h.2, fun _ k => ⟨h.1, k⟩⟩ | exact h.elim
    · exact h.elim
  | makeFunc f first caps => simp only [aop] at *; split at h <;> first | exact ⟨_, h.2, fun _ k => ⟨h.1, k⟩⟩ | exact h.elim
  | fieldAddr t x f =>
    simp only [aop] at *
    split at h
    · split at h <;> first | exact ⟨_, h.2, fun _ k => ⟨h.1, k⟩⟩ | exact h.elim
    · exact h.elim
  | field t x f =>
    simp only [aop] at *
    split at h
    · split at h <;> first | exact ⟨_, h.2.2, fun _ k => ⟨h.1, h.2.1, k⟩⟩ | exact h.elim
    · exact h.elim
  | indexAddr t x ix =>
    simp only [aop] at *
    split at h
    · split at h <;> first | exact ⟨_, h.2.2, fun _ k => ⟨h.1, h.2.1, k⟩⟩ | exact h.elim
    · split at h
      · exact ⟨_, h.2.2.2, fun _ k => ⟨h.1, h.2.1, h.2.2.1, k⟩⟩
      · exact ⟨_, h.2.2.2, fun _ k => ⟨h.1, h.2.1, h.2.2.1, k⟩⟩
      · exact ⟨_, h.2.2, fun _ k => ⟨h.1, h.2.1, k⟩⟩
      · exact h.elim
  | extract x i =>
    simp only [aop] at *
    split at h
    · split at h <;> first | exact ⟨_, h, fun _ k => k⟩ | exact h.elim
    · exact h.elim
  | _ => simp [quietOp] at hq
/-! ### Orders -/
def tmpsOf (op : Op) : List Nat := op.operands.toList.filterMap fun | .tmp t => some t | _ => none
def gtOf (all : Array Oper) (o : Oper) : List Nat := match o.guard with | some (j, _) => (gtmp all j).toList | none => []
def looks (all : Array Oper) (o : Oper) : List Nat := tmpsOf o.op ++ gtOf all o
def raw1 (P : Program) (W0 : World) (all : Array Oper) (o : Oper) (e : Env) (H : AH) (R : AV → AH → Prop) : Prop := match want1 all e o with
  | some true => aop P W0 o.op e H R
  | some false => R (.v undef) H
  | none => False
def quietO (o : Oper) : Bool := quietOp o.op
variable {all : Array Oper}
theorem raw1_mono {o : Oper} {e : Env} {H : AH} {R R' : AV → AH → Prop} (hk : ∀ v H', R v H' → R' v H') (h : raw1 P W0 all o e H R) : raw1 P W0 all o e H R' := by
  unfold raw1 at *
  split
  · rename_i hw; rw [hw] at h; exact aop_mono hk h
  · rename_i hw; rw [hw] at h; exact hk _ _ h
  · rename_i hw; rw [hw] at h; exact h
theorem raw1_congr {o : Oper} {e e' : Env} {H : AH} {R : AV → AH → Prop} (he : ∀ t ∈ looks all o, e t = e' t) (h : raw1 P W0 all o e H R) : raw1 P W0 all o e' H R := by
  have hw : want1 all e o = want1 all e' o := by
    unfold want1
    cases hg : o.guard with
    | none => rfl
    | some g =>
      obtain ⟨j, w⟩ := g
      simp only
      cases ht : gtmp all j with
      | none => rfl
      | some t =>
        simp only
        rw [he t (by simp [looks, gtOf, hg, ht])]
  have ho : ∀ x ∈ o.op.operands.toList, ev e x = ev e' x := by
    intro x hx
    cases x with
    | tmp t => exact he t (by simp only [looks, tmpsOf, List.mem_append, List.mem_filterMap]; exact .inl ⟨_, hx, rfl⟩)
    | _ => rfl
  unfold raw1 at *
  rw [← hw]
  split
  · rename_i hw2; rw [hw2] at h; simp only at h; rwa [aop_congr ho] at h
  · rename_i hw2; rw [hw2] at h; exact h
  · rename_i hw2; rw [hw2] at h; exact h
theorem raw1_det {o : Oper} (hq : quietO o = true) {e : Env} {H : AH} {R : AV → AH → Prop} (h : raw1 P W0 all o e H R) : ∃ v, R v H ∧ ∀ R' : AV → AH → Prop, R' v H → raw1 P W0 all o e H R' := by
  unfold raw1 at *
  split at h
  · obtain ⟨v, h1, h2⟩ := quiet_det hq h
    exact ⟨v, h1, h2⟩
  · exact ⟨_, h, fun _ k => k⟩
  · exact h.elim

def dIn (d : Option Nat) (l : List Nat) : Bool := match d with | some t => l.contains t | none => false
theorem putA_at {d : Option Nat} {l : List Nat} (h : dIn d l = false) (v : AV) (e : Env) : ∀ t ∈ l, putA d v e t = e t := by
  intro t ht
  cases d with
  | none => rfl
  | some u =>
    simp only [putA, upd]
    rw [if_neg]
    rintro rfl
    simp [dIn, ht] at h
theorem putA_comm {d d' : Option Nat} (h : dIn d d'.toList = false) (v v' : AV) (e : Env) : putA d v (putA d' v' e) = putA d' v' (putA d v e) := by
  cases d with
  | none => rfl
  | some u =>
    cases d' with
    | none => rfl
    | some u' =>
      have : u ≠ u' := by simpa [dIn] using h
      funext t
      simp only [putA, upd]
      by_cases h1 : t = u
      · subst h1
        rw [if_pos rfl, if_neg this, if_pos rfl]
      · rw [if_neg h1, if_neg h1]
def indep (all : Array Oper) (a b : Oper) : Bool := !dIn a.dst (looks all b) && !dIn b.dst (looks all a) && !dIn b.dst a.dst.toList && !dIn a.dst (looks all a)
/-- b, that comes later, writes nothing that a reads or writes. -/
def noanti (all : Array Oper) (a b : Oper) : Bool := !dIn b.dst (looks all a) && !dIn b.dst a.dst.toList
def recheck (P : Program) (W0 : World) (all : Array Oper) (o : Oper) (e : Env) (H : AH) : Prop := raw1 P W0 all o e H fun v H' => H' = H ∧ ∀ t, o.dst = some t → v = e t
def stable (P : Program) (W0 : World) (all : Array Oper) (bef : Nat → Nat → Bool) (hist : List Nat) (i : Nat) (e : Env) (H : AH) : Prop := ∀ j ∈ hist, bef j i = false → ∀ o, all[j]? = some o → recheck P W0 all o e H
/-- The operations in one order; behind one that changes memory, those of before that might come behind it compute what they computed. -/
def wl (P : Program) (W0 : World) (all : Array Oper) (bef : Nat → Nat → Bool) (Q : Env → AH → Prop) : List Nat → List Nat → Env → AH → Prop
  | hist, [], e, H => Q e H
  | hist, i :: l, e, H => match all[i]? with
    | some o => if quietO o = true then raw1 P W0 all o e H fun v H' => wl P W0 all bef Q (i :: hist) l (putA o.dst v e) H'
      else raw1 P W0 all o e H fun v H' => stable P W0 all bef hist i (putA o.dst v e) H' ∧ wl P W0 all bef Q hist l (putA o.dst v e) H'
    | none => False
variable {bef : Nat → Nat → Bool} {Q : Env → AH → Prop}
theorem wl_hist : ∀ (l hist hist' : List Nat) (e : Env) (H : AH), (∀ j ∈ hist', j ∈ hist) → wl P W0 all bef Q hist l e H → wl P W0 all bef Q hist' l e H
  | [], _, _, _, _, _, h => h
  | i :: l, hist, hist', e, H, hs, h => by
    simp only [wl] at h ⊢
    split at h
    · split at h
      · rename_i hq
        rw [if_pos hq]
        exact raw1_mono (fun v H' hk => wl_hist l _ _ _ _ (fun j hj => (List.mem_cons.1 hj).elim (fun h => h ▸ List.mem_cons_self ..) fun hj => List.mem_cons_of_mem _ (hs j hj)) hk) h
      · rename_i hq
        rw [if_neg hq]
        exact raw1_mono (fun v H' hk => ⟨fun j hj => hk.1 j (hs j hj), wl_hist l _ _ _ _ hs hk.2⟩) h
    · exact h
/-- What a pending operation must be, for i to come first. -/
def Pend (all : Array Oper) (bef : Nat → Nat → Bool) (i : Nat) (oi : Oper) (j : Nat) : Prop := ∃ o, all[j]? = some o ∧ quietO o = true ∧ bef j i = false ∧ indep all o oi = true
def NA (all : Array Oper) (j k : Nat) : Prop := ∀ a b, all[j]? = some a → all[k]? = some b → noanti all a b = true
theorem move {i : Nat} {oi : Oper} (hi : all[i]? = some oi) : ∀ (l1 hist pend l2 : List Nat) (e : Env) (H : AH), (∀ j ∈ l1, Pend all bef i oi j) → (∀ j ∈ pend, j ∈ hist) → (∀ j ∈ pend, bef j i = false) → (quietO oi = false → l1.Pairwise (NA all) ∧ ∀ k ∈ pend, ∀ j ∈ l1, NA all k j) →
    wl P W0 all bef Q hist (l1 ++ i :: l2) e H → raw1 P W0 all oi e H fun v H' => (quietO oi = false → stable P W0 all bef pend i (putA oi.dst v e) H') ∧ wl P W0 all bef Q hist (l1 ++ l2) (putA oi.dst v e) H'
  | [], hist, pend, l2, e, H, hp, h1, h2, h3, h => by
    simp only [List.nil_append, wl, hi] at h
    split at h
    · rename_i hq
      exact raw1_mono (fun v H' hk => ⟨fun hn => absurd (hq.symm.trans hn) (by decide), wl_hist _ _ _ _ _ (fun j hj => List.mem_cons_of_mem _ hj) hk⟩) h
    · exact raw1_mono (fun v H' hk => ⟨fun _ j hj => hk.1 j (h1 j hj), hk.2⟩) h
  | j :: l1, hist, pend, l2, e, H, hp, h1, h2, h3, h => by
    obtain ⟨oj, hj, hq, hb, hind⟩ := hp j (List.mem_cons_self ..)
    simp only [List.cons_append, wl, hj, hq, if_true] at h
    obtain ⟨vj, hw, hre⟩ := raw1_det hq h
    simp only [indep, Bool.and_eq_true, Bool.not_eq_true'] at hind
    obtain ⟨⟨⟨i1, i2⟩, i3⟩, i4⟩ := hind
    have ih := move hi l1 (j :: hist) (j :: pend) l2 (putA oj.dst vj e) H (fun k hk => hp k (List.mem_cons_of_mem _ hk))
      (fun k hk => by rcases List.mem_cons.1 hk with rfl | hk; exact List.mem_cons_self ..; exact List.mem_cons_of_mem _ (h1 k hk))
      (fun k hk => by rcases List.mem_cons.1 hk with rfl | hk; exact hb; exact h2 k hk)
      (fun hn => by
        obtain ⟨g1, g2⟩ := h3 hn
        rw [List.pairwise_cons] at g1
        refine ⟨g1.2, fun k hk m hm => ?_⟩
        rcases List.mem_cons.1 hk with rfl | hk
        · exact g1.1 m hm
        · exact g2 k hk m (List.mem_cons_of_mem _ hm)) hw
    have ih2 := raw1_congr (e' := e) (fun t ht => putA_at i1 vj e t ht) ih
    have hcm : ∀ v, putA oi.dst v (putA oj.dst vj e) = putA oj.dst vj (putA oi.dst v e) := fun v => putA_comm i3 v vj e
    have step : ∀ v H', (quietO oi = true → H' = H) → ((quietO oi = false → stable P W0 all bef (j :: pend) i (putA oi.dst v (putA oj.dst vj e)) H') ∧ wl P W0 all bef Q (j :: hist) (l1 ++ l2) (putA oi.dst v (putA oj.dst vj e)) H') →
        (quietO oi = false → stable P W0 all bef pend i (putA oi.dst v e) H') ∧ wl P W0 all bef Q hist (j :: l1 ++ l2) (putA oi.dst v e) H' := by
      rintro v H' hH ⟨hA, hB⟩
      rw [hcm] at hA hB
      refine ⟨fun hn k hk hbk ok hok => ?_, ?_⟩
      · have hna := (h3 hn).2 k hk j (List.mem_cons_self ..) ok oj hok hj
        simp only [noanti, Bool.and_eq_true, Bool.not_eq_true'] at hna
        have := hA hn k (List.mem_cons_of_mem _ hk) hbk ok hok
        unfold recheck at *
        refine raw1_mono ?_ (raw1_congr (e' := putA oi.dst v e) (fun t ht => putA_at hna.1 vj _ t ht) this)
        rintro w H'' ⟨rfl, hw⟩
        refine ⟨rfl, fun t ht => ?_⟩
        rw [hw t ht]
        exact putA_at hna.2 vj _ t (by simp [ht])
      · simp only [List.cons_append, wl, hj, hq, if_true]
        cases hqi : quietO oi with
        | true =>
          have := hH hqi
          subst this
          exact raw1_congr (fun t ht => (putA_at i2 v e t ht).symm) (hre _ hB)
        | false =>
          have := hA hqi j (List.mem_cons_self ..) hb oj hj
          unfold recheck at this
          refine raw1_mono ?_ (raw1_congr (e' := putA oi.dst v e) (fun t ht => putA_at i4 vj _ t ht) this)
          rintro w H'' ⟨rfl, hw⟩
          have : putA oj.dst w (putA oi.dst v e) = putA oj.dst vj (putA oi.dst v e) := by
            cases hd : oj.dst with
            | none => rfl
            | some t =>
              rw [hw t hd, hd]
              simp [putA, upd]
          rw [this]
          exact hB
    by_cases hqi : quietO oi = true
    · obtain ⟨v, k1, k2⟩ := raw1_det hqi ih2
      exact k2 _ (step v H (fun _ => rfl) k1)
    · exact raw1_mono (fun v H' hk => step v H' (fun hn => absurd hn hqi) hk) ih2

/-! ### What comes ahead of what -/
inductive Reach (all : Array Oper) : Nat → Nat → Prop
  | one {i : Nat} {o : Oper} {ed : Edge} : all[i]? = some o → ed ∈ o.after → Region.binds .any ed = true → Reach all i ed.on
  | step {i j : Nat} {o : Oper} {ed : Edge} : all[i]? = some o → ed ∈ o.after → Region.binds .any ed = true → Reach all ed.on j → Reach all i j
def maskOf (ms : List Nat) (es : List Edge) : Nat := es.foldl (fun m ed => if Region.binds .any ed = true then m ||| (1 <<< ed.on) ||| ms.getD ed.on 0 else m) 0
def masks : List Oper → List Nat → List Nat
  | [], ms => ms
  | o :: os, ms => masks os (ms ++ [maskOf ms o.after.toList])
theorem maskOf_bit (ms : List Nat) (j : Nat) : ∀ (es : List Edge) (m : Nat), (es.foldl (fun m ed => if Region.binds .any ed = true then m ||| (1 <<< ed.on) ||| ms.getD ed.on 0 else m) m).testBit j = true →
    m.testBit j = true ∨ ∃ ed ∈ es, Region.binds .any ed = true ∧ (ed.on = j ∨ (ms.getD ed.on 0).testBit j = true)
  | [], m, h => .inl h
  | ed :: es, m, h => by
    rw [List.foldl_cons] at h
    rcases maskOf_bit ms j es _ h with h | ⟨d, hd, h1, h2⟩
    · split at h
      · rename_i hb
        simp only [Nat.testBit_or, Bool.or_eq_true] at h
        rcases h with (h | h) | h
        · exact .inl h
        · refine .inr ⟨ed, List.mem_cons_self .., hb, .inl ?_⟩
          rw [Nat.one_shiftLeft, Nat.testBit_two_pow] at h
          simpa using h
        · exact .inr ⟨ed, List.mem_cons_self .., hb, .inr h⟩
      · exact .inl h
    · exact .inr ⟨d, List.mem_cons_of_mem _ hd, h1, h2⟩
def GoodMs (all : Array Oper) (ms : List Nat) : Prop := ∀ k j, (ms.getD k 0).testBit j = true → Reach all k j
theorem masks_good : ∀ (os : List Oper) (ms : List Nat), (∀ k, os[k]? = all[ms.length + k]?) → GoodMs all ms → GoodMs all (masks os ms)
  | [], ms, _, h => h
  | o :: os, ms, ho, h => by
    refine masks_good os (ms ++ [maskOf ms o.after.toList]) (fun k => ?_) ?_
    · have := ho (k + 1)
      simp only [List.getElem?_cons_succ] at this
      rw [this, List.length_append, List.length_singleton]
      congr 1; omega
    · intro k j hk
      rw [List.getD_eq_getElem?_getD, List.getElem?_append] at hk
      split at hk
      · exact h k j (by rw [List.getD_eq_getElem?_getD]; exact hk)
      · rename_i hlt
        cases hkk : k - ms.length with
        | zero =>
          have : k = ms.length := by omega
          subst this
          rw [Nat.sub_self] at hk
          simp only [List.getElem?_cons_zero, Option.getD_some] at hk
          have h0 := ho 0
          simp only [List.getElem?_cons_zero, Nat.add_zero] at h0
          rcases maskOf_bit ms j _ 0 hk with hz | ⟨ed, h1, h2, h3⟩
          · simp at hz
          · rcases h3 with rfl | h3
            · exact .one h0.symm (by simpa using h1) h2
            · exact .step h0.symm (by simpa using h1) h2 (h _ _ h3)
        | succ n => rw [hkk] at hk; simp at hk
def befOf (ops : Array Oper) : Nat → Nat → Bool := let ms := masks ops.toList []; fun j i => (ms.getD i 0).testBit j
theorem befOf_reach {ops : Array Oper} {j i : Nat} (h : befOf ops j i = true) : Reach ops i j :=
  masks_good (all := ops) ops.toList [] (fun k => by simp) (fun k j hk => by simp at hk) i j h
def Closed (all : Array Oper) (L : Nat → Bool) : Prop := ∀ i, L i = true → ∀ o, all[i]? = some o → ∀ ed ∈ o.after, Region.binds .any ed = true → L ed.on = true
theorem Closed.reach {L : Nat → Bool} (hc : Closed all L) {i j : Nat} (h : Reach all i j) : (∀ o, all[i]? = some o → ∀ ed ∈ o.after, Region.binds .any ed = true → L ed.on = true) → L j = true := by
  induction h with
  | one ho he hb => intro hd; exact hd _ ho _ he hb
  | step ho he hb _ ih => intro hd; exact ih (hc _ (hd _ ho _ he hb))
/-! ### Every order -/
def getO (all : Array Oper) (i : Nat) : Oper := all.getD i default
def dirTo (o : Oper) (d : Nat) : Bool := o.after.any fun ed => Region.binds .any ed && ed.on == d
def pw (f : Nat → Nat → Bool) : List Nat → Bool
  | [] => true
  | i :: l => l.all (f i) && pw f l
theorem pw_ok {f : Nat → Nat → Bool} : {l : List Nat} → pw f l = true → l.Pairwise fun a b => f a b = true
  | [], _ => .nil
  | i :: l, h => by
    simp only [pw, Bool.and_eq_true, List.all_eq_true] at h
    exact .cons h.1 (pw_ok h.2)
def pairOk (all : Array Oper) (bef : Nat → Nat → Bool) (j i : Nat) : Bool := !bef i j && !dirTo (getO all j) i && (bef j i || (quietO (getO all j) && indep all (getO all j) (getO all i))) && j != i
def tripOk (all : Array Oper) (bef : Nat → Nat → Bool) (i j k : Nat) : Bool := bef j i || bef k i || bef i k || noanti all (getO all j) (getO all k)
/-- An order of the operations by which all others go. -/
def okDraw (all : Array Oper) (ord : List Nat) : Bool :=
  let bef := befOf all
  (List.range all.size).all (fun i => ord.contains i) && ord.all (fun i => i < all.size && !dirTo (getO all i) i && (getO all i).after.all fun ed => !Region.binds .any ed || ed.on < all.size) && pw (pairOk all bef) ord &&
  ord.all fun i => quietO (getO all i) || pw (tripOk all bef i) ord
theorem getO_eq {i : Nat} {o : Oper} (h : all[i]? = some o) : getO all i = o := by simp [getO, h]
def awpAny (P : Program) (W0 : World) (all : Array Oper) (Q : Env → AH → Prop) : Nat → Array Bool → Env → AH → Prop
  | 0, listed, e, H => Region.ready .any all listed = [] ∧ Q e H
  | f + 1, listed, e, H => (Region.ready .any all listed = [] → Q e H) ∧ ∀ i ∈ Region.ready .any all listed, ∃ o, all[i]? = some o ∧ raw1 P W0 all o e H fun v H' => awpAny P W0 all Q f (listed.setIfInBounds i true) (putA o.dst v e) H'
theorem listed_set {listed : Array Bool} {i j : Nat} {d : Bool} (hi : i < listed.size) : (listed.setIfInBounds i true).getD j d = if j = i then true else listed.getD j d := by
  by_cases h : j = i
  · subst h; simp [hi]
  · rw [if_neg h]
    simp [Array.getElem?_setIfInBounds, Ne.symm h]
theorem wl_any {ord : List Nat} (hok : okDraw all ord = true) : ∀ (fuel : Nat) (listed : Array Bool) (l : List Nat) (e : Env) (H : AH), l.Sublist ord → l.length = fuel → listed.size = all.size → (∀ i, i < all.size → (listed.getD i true = false ↔ i ∈ l)) →
    Closed all (fun i => listed.getD i false) → wl P W0 all (befOf all) Q [] l e H → awpAny P W0 all Q fuel listed e H := by
  simp only [okDraw, Bool.and_eq_true] at hok
  obtain ⟨⟨⟨c1, c2⟩, c3⟩, c4⟩ := hok
  have c3 := pw_ok c3
  simp only [List.all_eq_true, Bool.and_eq_true, decide_eq_true_eq] at c2
  simp only [List.all_eq_true, Bool.or_eq_true] at c4
  intro fuel
  induction fuel with
  | zero =>
    intro listed l e H hs hl hz hm hc h
    have : l = [] := List.eq_nil_of_length_eq_zero hl
    subst this
    refine ⟨?_, h⟩
    rw [List.eq_nil_iff_forall_not_mem]
    intro i hi
    obtain ⟨h1, o, h2, _⟩ := mem_ready.1 hi
    have := (hm i (Array.getElem?_eq_some_iff.1 h2).1).1 h1
    cases this
  | succ fuel ih =>
    intro listed l e H hs hl hz hm hc h
    have inb : ∀ j, listed.getD j true = false → j < all.size := by
      intro j hj
      rcases Nat.lt_or_ge j listed.size with h | h
      · omega
      · rw [Array.getD_eq_getD_getElem?, Array.getElem?_eq_none h] at hj; cases hj
    have tt : ∀ j, j < all.size → j ∉ l → listed.getD j false = true := by
      intro j hj hn
      have h1 : ¬ listed.getD j true = false := fun hh => hn ((hm j hj).1 hh)
      have h2 : j < listed.size := by omega
      simp only [Array.getD_eq_getD_getElem?, Array.getElem?_eq_getElem h2, Option.getD_some] at h1 ⊢
      simpa using h1
    have ff : ∀ j ∈ l, ¬ listed.getD j false = true := by
      intro j hj
      have hjs := (c2 j (hs.subset hj)).1.1
      have h1 := (hm j hjs).2 hj
      have h2 : j < listed.size := by omega
      simp only [Array.getD_eq_getD_getElem?, Array.getElem?_eq_getElem h2, Option.getD_some] at h1 ⊢
      rw [h1]; decide
    have c3l := c3.sublist hs
    refine ⟨fun hnil => ?_, fun i hi => ?_⟩
    · cases l with
      | nil => simp at hl
      | cons i l =>
        exfalso
        have hi := c2 i (hs.subset (List.mem_cons_self ..))
        obtain ⟨⟨hi1, hi2⟩, hi3⟩ := hi
        have hg : all[i]? = some (getO all i) := by rw [Array.getElem?_eq_getElem hi1]; simp [getO, hi1]
        have : i ∈ Region.ready .any all listed := by
          refine mem_ready.2 ⟨(hm i hi1).2 (List.mem_cons_self ..), getO all i, hg, fun ed he hb => ?_⟩
          have h3 := Array.all_eq_true_iff_forall_mem.1 hi3 ed he
          rw [hb] at h3
          have h3 : ed.on < all.size := by simpa using h3
          refine tt _ h3 fun hmem => ?_
          have hd : dirTo (getO all i) ed.on = true := by
            obtain ⟨n, hn, rfl⟩ := Array.mem_iff_getElem.1 he
            simp only [dirTo, Array.any_eq_true]
            exact ⟨n, hn, by simp [hb]⟩
          rcases List.mem_cons.1 hmem with heq | hmem
          · rw [heq] at hd
            rw [hd] at hi2; cases hi2
          · have := (List.pairwise_cons.1 c3l).1 _ hmem
            simp only [pairOk, hd, Bool.not_true, Bool.and_false, Bool.false_and] at this
            cases this
        rw [hnil] at this
        cases this
    · obtain ⟨h1, oi, h2, h3⟩ := mem_ready.1 hi
      have hil := (hm i (inb i h1)).1 h1
      obtain ⟨l1, l2, rfl⟩ := List.append_of_mem hil
      have hoi := getO_eq h2
      rw [List.pairwise_append] at c3l
      obtain ⟨q1, q2, q3⟩ := c3l
      have pr : ∀ j ∈ l1, pairOk all (befOf all) j i = true := fun j hj => q3 j hj i (List.mem_cons_self ..)
      have notbef : ∀ j ∈ l1, befOf all j i = false := by
        intro j hj
        cases hb : befOf all j i with
        | false => rfl
        | true =>
          have := hc.reach (befOf_reach hb) (fun o ho ed he hbn => by rw [h2] at ho; injection ho with ho; subst ho; exact h3 ed he hbn)
          exact absurd this (ff j (List.mem_append_left _ hj))
      have bound : ∀ j ∈ l1, j < all.size := fun j hj => (c2 j (hs.subset (List.mem_append_left _ hj))).1.1
      have getg : ∀ j ∈ l1, all[j]? = some (getO all j) := fun j hj => by rw [Array.getElem?_eq_getElem (bound j hj)]; simp [getO, bound j hj]
      have hmv := move (Q := Q) (bef := befOf all) h2 l1 [] [] l2 e H ?_ (fun _ h => by cases h) (fun _ h => by cases h) ?_ h
      · refine ⟨oi, h2, raw1_mono (fun v H' hk => ih (listed.setIfInBounds i true) (l1 ++ l2) _ _ ?_ ?_ ?_ ?_ ?_ hk.2) hmv⟩
        · exact List.Sublist.trans ((List.Sublist.refl l1).append (List.sublist_cons_self _ _)) hs
        · simp only [List.length_append, List.length_cons] at hl ⊢; omega
        · simp [hz]
        · intro m hmz
          rw [listed_set (by have := inb i h1; omega)]
          split
          · rename_i hmi
            subst hmi
            simp only [Bool.true_eq_false, false_iff, List.mem_append, not_or]
            constructor
            · intro hml
              have := pr m hml
              simp [pairOk] at this
            · intro hml
              have := (List.pairwise_cons.1 q2).1 m hml
              simp [pairOk] at this
          · rename_i hmi
            rw [hm m hmz]
            simp only [List.mem_append, List.mem_cons, hmi, false_or]
        · intro m hmt o ho ed he hb
          simp only at hmt ⊢
          rw [listed_set (by have := inb i h1; omega)] at hmt ⊢
          split
          · rfl
          · split at hmt
            · rename_i hmi
              subst hmi
              rw [h2] at ho; injection ho with ho; subst ho
              exact h3 ed he hb
            · exact hc m hmt o ho ed he hb
      · intro j hj
        have hp := pr j hj
        simp only [pairOk, notbef j hj, Bool.false_or, Bool.and_eq_true] at hp
        refine ⟨getO all j, getg j hj, hp.1.2.1, notbef j hj, ?_⟩
        rw [hoi] at hp
        exact hp.1.2.2
      · intro hn
        refine ⟨?_, fun _ h => by cases h⟩
        have hq := (c4 i (hs.subset hil)).resolve_left (by rw [hoi, hn]; decide)
        have hq := (pw_ok hq).sublist hs
        rw [List.pairwise_append] at hq
        refine hq.1.imp_of_mem ?_
        intro j k hj hk ht a b ha hb
        have hp := pr k hk
        simp only [pairOk, Bool.and_eq_true, Bool.not_eq_true'] at hp
        simp only [tripOk, notbef j hj, notbef k hk, hp.1.1.1, Bool.false_or] at ht
        rw [getO_eq ha, getO_eq hb] at ht
        exact ht
/-! ### Several operations that change memory, in no order -/
inductive Tr where
  | node (q : List Nat) (brs : List (Nat × Tr))
def Tr.q : Tr → List Nat | .node q _ => q
def Tr.brs : Tr → List (Nat × Tr) | .node _ b => b
mutual
def Tr.paths : Tr → List (List Nat)
  | .node q [] => [q]
  | .node q (b :: bs) => Tr.pathsL q (b :: bs)
def Tr.pathsL (q : List Nat) : List (Nat × Tr) → List (List Nat)
  | [] => []
  | (i, t) :: bs => (t.paths).map (fun p => q ++ i :: p) ++ Tr.pathsL q bs
end
mutual
/-- The operations of the tree, with those of before; behind a branch the tree of that branch. -/
def wt (P : Program) (W0 : World) (all : Array Oper) (bef : Nat → Nat → Bool) (Q : Env → AH → Prop) : Tr → List Nat → Env → AH → Prop
  | .node q brs, hist, e, H => wl P W0 all bef (fun e' H' => (brs = [] → Q e' H') ∧ wts P W0 all bef Q brs (q.reverse ++ hist) e' H') hist q e H
def wts (P : Program) (W0 : World) (all : Array Oper) (bef : Nat → Nat → Bool) (Q : Env → AH → Prop) : List (Nat × Tr) → List Nat → Env → AH → Prop
  | [], _, _, _ => True
  | (i, t) :: bs, hist, e, H => (match all[i]? with
    | some o => raw1 P W0 all o e H fun v H' => stable P W0 all bef hist i (putA o.dst v e) H' ∧ wt P W0 all bef Q t hist (putA o.dst v e) H'
    | none => False) ∧ wts P W0 all bef Q bs hist e H
end
theorem wts_mem {all : Array Oper} {Q : Env → AH → Prop} {bef : Nat → Nat → Bool} {i : Nat} {t : Tr} : ∀ {bs : List (Nat × Tr)} {hist : List Nat} {e : Env} {H : AH}, wts P W0 all bef Q bs hist e H → (i, t) ∈ bs → ∃ o, all[i]? = some o ∧ raw1 P W0 all o e H fun v H' => stable P W0 all bef hist i (putA o.dst v e) H' ∧ wt P W0 all bef Q t hist (putA o.dst v e) H'
  | [], _, _, _, _, h => by cases h
  | (k, u) :: bs, hist, e, H, h, hm => by
    simp only [wts] at h
    rcases List.mem_cons.1 hm with heq | hm
    · cases heq
      have h1 := h.1
      split at h1
      · rename_i o ho; exact ⟨o, ho, h1⟩
      · exact h1.elim
    · exact wts_mem h.2 hm
theorem wl_monoQ {all : Array Oper} {bef : Nat → Nat → Bool} {Q Q' : Env → AH → Prop} (hq : ∀ e H, Q e H → Q' e H) : ∀ (l hist : List Nat) (e : Env) (H : AH), wl P W0 all bef Q hist l e H → wl P W0 all bef Q' hist l e H
  | [], _, _, _, h => hq _ _ h
  | i :: l, hist, e, H, h => by
    simp only [wl] at h ⊢
    split at h
    · split at h
      · rename_i hx
        rw [if_pos hx]
        exact raw1_mono (fun v H' hk => wl_monoQ hq l _ _ _ hk) h
      · rename_i hx
        rw [if_neg hx]
        exact raw1_mono (fun v H' hk => ⟨hk.1, wl_monoQ hq l _ _ _ hk.2⟩) h
    · exact h
mutual
theorem wt_hist {all : Array Oper} {Q : Env → AH → Prop} {bef : Nat → Nat → Bool} : ∀ (t : Tr) (hist hist' : List Nat) (e : Env) (H : AH), (∀ j ∈ hist', j ∈ hist) → wt P W0 all bef Q t hist e H → wt P W0 all bef Q t hist' e H
  | .node q brs, hist, hist', e, H, hs, h => by
    simp only [wt] at h ⊢
    refine wl_hist q hist hist' e H hs (wl_monoQ (fun e' H' hk => ⟨hk.1, wts_hist brs _ _ e' H' (fun j hj => ?_) hk.2⟩) q hist e H h)
    rcases List.mem_append.1 hj with hj | hj
    · exact List.mem_append_left _ hj
    · exact List.mem_append_right _ (hs j hj)
theorem wts_hist {all : Array Oper} {Q : Env → AH → Prop} {bef : Nat → Nat → Bool} : ∀ (bs : List (Nat × Tr)) (hist hist' : List Nat) (e : Env) (H : AH), (∀ j ∈ hist', j ∈ hist) → wts P W0 all bef Q bs hist e H → wts P W0 all bef Q bs hist' e H
  | [], _, _, _, _, _, _ => trivial
  | (i, t) :: bs, hist, hist', e, H, hs, h => by
    simp only [wts] at h ⊢
    refine ⟨?_, wts_hist bs hist hist' e H hs h.2⟩
    have h1 := h.1
    split at h1
    · exact raw1_mono (fun v H' hk => ⟨fun j hj => hk.1 j (hs j hj), wt_hist t hist hist' _ _ hs hk.2⟩) h1
    · exact h1
end
mutual
theorem wt_monoQ {all : Array Oper} {bef : Nat → Nat → Bool} {Q Q' : Env → AH → Prop} (hq : ∀ e H, Q e H → Q' e H) : ∀ (t : Tr) (hist : List Nat) (e : Env) (H : AH), wt P W0 all bef Q t hist e H → wt P W0 all bef Q' t hist e H
  | .node q brs, hist, e, H, h => by
    simp only [wt] at h ⊢
    exact wl_monoQ (fun e' H' hk => ⟨fun hb => hq _ _ (hk.1 hb), wts_monoQ hq brs _ e' H' hk.2⟩) q hist e H h
theorem wts_monoQ {all : Array Oper} {bef : Nat → Nat → Bool} {Q Q' : Env → AH → Prop} (hq : ∀ e H, Q e H → Q' e H) : ∀ (bs : List (Nat × Tr)) (hist : List Nat) (e : Env) (H : AH), wts P W0 all bef Q bs hist e H → wts P W0 all bef Q' bs hist e H
  | [], _, _, _, _ => trivial
  | (i, t) :: bs, hist, e, H, h => by
    simp only [wts] at h ⊢
    refine ⟨?_, wts_monoQ hq bs hist e H h.2⟩
    have h1 := h.1
    split at h1
    · exact raw1_mono (fun v H' hk => ⟨hk.1, wt_monoQ hq t hist _ _ hk.2⟩) h1
    · exact h1
end
/-- Quiet operations, then others. -/
theorem wl_then {all : Array Oper} {bef : Nat → Nat → Bool} {Q Q' : Env → AH → Prop} : ∀ (q hist l : List Nat) (e : Env) (H : AH), (∀ j ∈ q, ∃ o, all[j]? = some o ∧ quietO o = true) → (∀ e' H', Q e' H' → wl P W0 all bef Q' (q.reverse ++ hist) l e' H') → wl P W0 all bef Q hist q e H → wl P W0 all bef Q' hist (q ++ l) e H
  | [], hist, l, e, H, _, hk, h => by simpa using hk e H h
  | j :: q, hist, l, e, H, hq, hk, h => by
    obtain ⟨o, ho, hqo⟩ := hq j (List.mem_cons_self ..)
    simp only [List.cons_append, wl, ho, hqo, if_true] at h ⊢
    refine raw1_mono (fun v H' h' => wl_then q (j :: hist) l _ _ (fun k hk' => hq k (List.mem_cons_of_mem _ hk')) (fun e' H'' hx => ?_) h') h
    have := hk e' H'' hx
    simpa using this
mutual
/-- At each branching: every operation that changes memory and waits for no other one is a branch; the others stand below each. -/
def Tr.ok (all : Array Oper) (bef : Nat → Nat → Bool) : Tr → Bool
  | .node q brs => q.all (fun j => quietO (getO all j)) && Tr.okL all bef (brs.map (·.1)) brs
def Tr.okL (all : Array Oper) (bef : Nat → Nat → Bool) (hs : List Nat) : List (Nat × Tr) → Bool
  | [] => true
  | (i, t) :: bs => !quietO (getO all i) && t.ok all bef && (t.paths).all (fun p => p.all fun k => if quietO (getO all k) then (i :: p).any fun j => bef j k else hs.contains k || (i :: p).any fun j => bef j k && !quietO (getO all j)) && Tr.okL all bef hs bs
end
def pairT (all : Array Oper) (bef : Nat → Nat → Bool) (j i : Nat) : Bool := !bef i j && !dirTo (getO all j) i && (bef j i || (quietO (getO all j) && indep all (getO all j) (getO all i)) || !quietO (getO all j)) && j != i
/-- One way through the tree. -/
def okPath (all : Array Oper) (bef : Nat → Nat → Bool) (ord : List Nat) : Bool :=
  ord.all (fun i => i < all.size && !dirTo (getO all i) i && (getO all i).after.all fun ed => !Region.binds .any ed || ed.on < all.size) && pw (pairT all bef) ord &&
  ord.all fun i => quietO (getO all i) || pw (tripOk all bef i) ord
def okTree (all : Array Oper) (t : Tr) : Bool :=
  let bef := befOf all
  t.ok all bef && (t.paths).all fun p => (List.range all.size).all (fun i => p.contains i) && okPath all bef p && p.length == all.size
mutual
theorem Tr.paths_ne : (t : Tr) → t.paths ≠ []
  | .node q [] => by simp [Tr.paths]
  | .node q ((i, t) :: bs) => by
    have := Tr.paths_ne t
    simp only [Tr.paths, Tr.pathsL]
    intro h
    rw [List.append_eq_nil_iff] at h
    exact this (List.map_eq_nil_iff.1 h.1)
end
theorem pathsL_mem {q p : List Nat} : ∀ {bs : List (Nat × Tr)}, p ∈ Tr.pathsL q bs ↔ ∃ i t p', (i, t) ∈ bs ∧ p' ∈ t.paths ∧ p = q ++ i :: p'
  | [] => by simp [Tr.pathsL]
  | (k, u) :: bs => by
    simp only [Tr.pathsL, List.mem_append, List.mem_map, pathsL_mem, List.mem_cons, Prod.mk.injEq]
    constructor
    · rintro (⟨p', h1, rfl⟩ | ⟨i, t, p', h1, h2, rfl⟩)
      · exact ⟨k, u, p', .inl ⟨rfl, rfl⟩, h1, rfl⟩
      · exact ⟨i, t, p', .inr h1, h2, rfl⟩
    · rintro ⟨i, t, p', ⟨rfl, rfl⟩ | h1, h2, rfl⟩
      · exact .inl ⟨p', h2, rfl⟩
      · exact .inr ⟨i, t, p', h1, h2, rfl⟩
theorem paths_mem {q p : List Nat} {bs : List (Nat × Tr)} : p ∈ (Tr.node q bs).paths ↔ (bs = [] ∧ p = q) ∨ ∃ i t p', (i, t) ∈ bs ∧ p' ∈ t.paths ∧ p = q ++ i :: p' := by
  cases bs with
  | nil => simp [Tr.paths]
  | cons b bs => simp only [Tr.paths]; rw [pathsL_mem]; simp
theorem okL_mem {all : Array Oper} {bef : Nat → Nat → Bool} {hs : List Nat} {i : Nat} {t : Tr} : ∀ {bs : List (Nat × Tr)}, Tr.okL all bef hs bs = true → (i, t) ∈ bs → quietO (getO all i) = false ∧ t.ok all bef = true ∧ ∀ p ∈ t.paths, ∀ k ∈ p, (quietO (getO all k) = true → ∃ j, j ∈ i :: p ∧ bef j k = true) ∧ (quietO (getO all k) = false → k ∈ hs ∨ ∃ j, j ∈ i :: p ∧ bef j k = true ∧ quietO (getO all j) = false)
  | [], _, h => by cases h
  | (k, u) :: bs, h, hm => by
    simp only [Tr.okL, Bool.and_eq_true, Bool.not_eq_true'] at h
    obtain ⟨⟨⟨h1, h2⟩, h3⟩, h4⟩ := h
    rcases List.mem_cons.1 hm with heq | hm
    · cases heq
      refine ⟨h1, h2, fun p hp k hk => ?_⟩
      have := List.all_eq_true.1 (List.all_eq_true.1 h3 p hp) k hk
      refine ⟨fun hq => ?_, fun hq => ?_⟩
      · rw [if_pos hq] at this
        exact List.any_eq_true.1 this
      · rw [if_neg (by rw [hq]; decide)] at this
        simp only [Bool.or_eq_true, List.any_eq_true, Bool.and_eq_true, Bool.not_eq_true', List.contains_eq_mem, decide_eq_true_eq] at this
        exact this
    · exact okL_mem h4 hm
theorem okPath_sub {all : Array Oper} {bef : Nat → Nat → Bool} {p p' : List Nat} (h : okPath all bef p = true) (hs : p'.Sublist p) :
    (∀ i ∈ p', i < all.size ∧ dirTo (getO all i) i = false ∧ ((getO all i).after.all fun ed => !Region.binds .any ed || decide (ed.on < all.size)) = true) ∧ p'.Pairwise (fun a b => pairT all bef a b = true) ∧ ∀ i ∈ p', quietO (getO all i) = false → p'.Pairwise (fun a b => tripOk all bef i a b = true) := by
  simp only [okPath, Bool.and_eq_true] at h
  obtain ⟨⟨c2, c3⟩, c4⟩ := h
  simp only [List.all_eq_true, Bool.and_eq_true, decide_eq_true_eq, Bool.not_eq_true'] at c2
  simp only [List.all_eq_true, Bool.or_eq_true] at c4
  refine ⟨fun i hi => ⟨(c2 i (hs.subset hi)).1.1, (c2 i (hs.subset hi)).1.2, (c2 i (hs.subset hi)).2⟩, (pw_ok c3).sublist hs, fun i hi hq => ?_⟩
  exact (pw_ok ((c4 i (hs.subset hi)).resolve_left (by rw [hq]; decide))).sublist hs
theorem wt_any : ∀ (fuel : Nat) (listed : Array Bool) (q : List Nat) (brs : List (Nat × Tr)) (e : Env) (H : AH), (Tr.node q brs).ok all (befOf all) = true →
    (∀ p ∈ (Tr.node q brs).paths, (∃ p0, okPath all (befOf all) p0 = true ∧ p.Sublist p0) ∧ p.length = fuel ∧ ∀ i, i < all.size → (listed.getD i true = false ↔ i ∈ p)) → listed.size = all.size →
    Closed all (fun i => listed.getD i false) → wt P W0 all (befOf all) Q (.node q brs) [] e H → awpAny P W0 all Q fuel listed e H := by
  intro fuel
  induction fuel with
  | zero =>
    intro listed q brs e H hok hp hz hc h
    have hbn : brs = [] := by
      cases brs with
      | nil => rfl
      | cons b bs =>
        obtain ⟨p', hp'⟩ := List.exists_mem_of_ne_nil _ (Tr.paths_ne b.2)
        have := (hp (q ++ b.1 :: p') (paths_mem.2 (.inr ⟨b.1, b.2, p', List.mem_cons_self .., hp', rfl⟩))).2.1
        simp at this
    subst hbn
    obtain ⟨_, hl, hm⟩ := hp q (paths_mem.2 (.inl ⟨rfl, rfl⟩))
    have : q = [] := List.eq_nil_of_length_eq_zero hl
    subst this
    simp only [wt, wl] at h
    refine ⟨?_, h.1 trivial⟩
    rw [List.eq_nil_iff_forall_not_mem]
    intro i hi
    obtain ⟨h1, o, h2, _⟩ := mem_ready.1 hi
    have := (hm i (Array.getElem?_eq_some_iff.1 h2).1).1 h1
    cases this
  | succ fuel ih =>
    intro listed q brs e H hok hp hz hc h
    have hok' := hok
    simp only [Tr.ok, Bool.and_eq_true] at hok'
    obtain ⟨hqq, hokL⟩ := hok'
    have inb : ∀ j, listed.getD j true = false → j < all.size := by
      intro j hj
      rcases Nat.lt_or_ge j listed.size with h | h
      · omega
      · rw [Array.getD_eq_getD_getElem?, Array.getElem?_eq_none h] at hj; cases hj
    have tt : ∀ j, j < all.size → ¬ listed.getD j true = false → listed.getD j false = true := by
      intro j hj h1
      have h2 : j < listed.size := by omega
      simp only [Array.getD_eq_getD_getElem?, Array.getElem?_eq_getElem h2, Option.getD_some] at h1 ⊢
      simpa using h1
    have ff : ∀ j, j < all.size → listed.getD j true = false → ¬ listed.getD j false = true := by
      intro j hjs h1
      have h2 : j < listed.size := by omega
      simp only [Array.getD_eq_getD_getElem?, Array.getElem?_eq_getElem h2, Option.getD_some] at h1 ⊢
      rw [h1]; decide
    have getg : ∀ j, j < all.size → all[j]? = some (getO all j) := fun j hj => by rw [Array.getElem?_eq_getElem hj]; simp [getO, hj]
    obtain ⟨p1, hp1⟩ := List.exists_mem_of_ne_nil _ (Tr.paths_ne (.node q brs))
    obtain ⟨⟨p0, ho0, hs0⟩, hl1, hm1⟩ := hp p1 hp1
    obtain ⟨a1, a2, a3⟩ := okPath_sub ho0 hs0
    have qsub : ∀ p ∈ (Tr.node q brs).paths, ∃ r, p = q ++ r := by
      intro p hpp
      rcases paths_mem.1 hpp with ⟨_, rfl⟩ | ⟨i, t, p', _, _, rfl⟩
      · exact ⟨[], by simp⟩
      · exact ⟨_, rfl⟩
    obtain ⟨r1, rfl⟩ := qsub p1 hp1
    have qb : ∀ j ∈ q, j < all.size := fun j hj => (a1 j (List.mem_append_left _ hj)).1
    have qquiet : ∀ j ∈ q, ∃ o, all[j]? = some o ∧ quietO o = true := fun j hj => ⟨_, getg j (qb j hj), List.all_eq_true.1 hqq j hj⟩
    simp only [wt] at h
    refine ⟨fun hnil => ?_, fun i hi => ?_⟩
    · exfalso
      cases hr : q ++ r1 with
      | nil => rw [hr] at hl1; simp at hl1
      | cons i l =>
        rw [hr] at a1 a2 hm1
        obtain ⟨hi1, hi2, hi3⟩ := a1 i (List.mem_cons_self ..)
        have : i ∈ Region.ready .any all listed := by
          refine mem_ready.2 ⟨(hm1 i hi1).2 (List.mem_cons_self ..), getO all i, getg i hi1, fun ed he hb => ?_⟩
          have h3 := Array.all_eq_true_iff_forall_mem.1 hi3 ed he
          rw [hb] at h3
          have h3 : ed.on < all.size := by simpa using h3
          refine tt _ h3 fun hmem => ?_
          have hmem := (hm1 _ h3).1 hmem
          have hd : dirTo (getO all i) ed.on = true := by
            obtain ⟨n, hn, rfl⟩ := Array.mem_iff_getElem.1 he
            simp only [dirTo, Array.any_eq_true]
            exact ⟨n, hn, by simp [hb]⟩
          rcases List.mem_cons.1 hmem with heq | hmem
          · rw [heq] at hd
            rw [hd] at hi2; cases hi2
          · have := (List.pairwise_cons.1 a2).1 _ hmem
            simp only [pairT, hd, Bool.not_true, Bool.and_false, Bool.false_and] at this
            cases this
        rw [hnil] at this
        cases this
    · obtain ⟨h1, oi, h2, h3⟩ := mem_ready.1 hi
      have hib := inb i h1
      have hoi := getO_eq h2
      have inp : ∀ p ∈ (Tr.node q brs).paths, i ∈ p := fun p hpp => ((hp p hpp).2.2 i hib).1 h1
      have hdeps : ∀ o, all[i]? = some o → ∀ ed ∈ o.after, Region.binds .any ed = true → listed.getD ed.on false = true := fun o ho ed he hbn => by rw [h2] at ho; injection ho with ho; subst ho; exact h3 ed he hbn
      have notbef : ∀ j, j < all.size → listed.getD j true = false → befOf all j i = false := by
        intro j hjb hj
        cases hb : befOf all j i with
        | false => rfl
        | true =>
          have := hc.reach (befOf_reach hb) hdeps
          exact absurd this (ff j hjb hj)
      have pathnb : ∀ p ∈ (Tr.node q brs).paths, ∀ j ∈ p, befOf all j i = false := by
        intro p hpp j hj
        obtain ⟨⟨p0', ho0', hs0'⟩, _, hm'⟩ := hp p hpp
        have hjb := ((okPath_sub ho0' hs0').1 j hj).1
        exact notbef j hjb ((hm' j hjb).2 hj)
      have listed2 : ∀ m, m < all.size → ∀ (p p' : List Nat), (∀ k, k ∈ p' ↔ k ∈ p ∧ k ≠ i) → (listed.getD m true = false ↔ m ∈ p) → ((listed.setIfInBounds i true).getD m true = false ↔ m ∈ p') := by
        intro m hmz p p' hpp hmm
        rw [listed_set (by omega), hpp]
        split
        · rename_i hmi; simp [hmi]
        · rename_i hmi; rw [hmm]; simp [hmi]
      have closed2 : Closed all (fun k => (listed.setIfInBounds i true).getD k false) := by
        intro m hmt o ho ed he hb
        simp only at hmt ⊢
        rw [listed_set (by omega)] at hmt ⊢
        split
        · rfl
        · split at hmt
          · rename_i hmi
            subst hmi
            exact hdeps o ho ed he hb
          · exact hc m hmt o ho ed he hb
      by_cases hqi : quietO oi = true
      · -- a quiet operation: it stands ahead of all branches
        have hiq : i ∈ q := by
          have hin := inp _ hp1
          rcases paths_mem.1 hp1 with ⟨_, heq⟩ | ⟨k, t, p', hkt, hp', heq⟩
          · rw [heq] at hin; exact hin
          · rw [heq] at hin a2
            rcases List.mem_append.1 hin with hin | hin
            · exact hin
            · exfalso
              have hke := (okL_mem hokL hkt).1
              rcases List.mem_cons.1 hin with rfl | hin
              · rw [hoi, hqi] at hke; cases hke
              · obtain ⟨j, hj, hx⟩ := ((okL_mem hokL hkt).2.2 p' hp' i hin).1 (by rw [hoi]; exact hqi)
                rw [pathnb _ hp1 j (by rw [heq]; exact List.mem_append_right _ hj)] at hx
                cases hx
        obtain ⟨l1, l2, rfl⟩ := List.append_of_mem hiq
        have a2q := (List.pairwise_append.1 a2).1
        rw [List.pairwise_append] at a2q
        obtain ⟨q1, q2, q3⟩ := a2q
        have hmv := move (Q := fun e' H' => (brs = [] → Q e' H') ∧ wts P W0 all (befOf all) Q brs ((l1 ++ i :: l2).reverse ++ []) e' H') (bef := befOf all) h2 l1 [] [] l2 e H ?_ (fun _ h => by cases h) (fun _ h => by cases h) (fun hn => by rw [hqi] at hn; cases hn) h
        · refine ⟨oi, h2, raw1_mono (fun v H' hk => ih (listed.setIfInBounds i true) (l1 ++ l2) brs _ _ ?_ ?_ (by simp [hz]) closed2 ?_) hmv⟩
          · simp only [Tr.ok, Bool.and_eq_true]
            refine ⟨?_, hokL⟩
            rw [List.all_append, List.all_cons] at hqq
            rw [List.all_append]
            simp only [Bool.and_eq_true] at hqq ⊢
            exact ⟨hqq.1, hqq.2.2⟩
          · intro p hpp
            have key : ∃ r, p = (l1 ++ l2) ++ r ∧ (l1 ++ i :: l2) ++ r ∈ (Tr.node (l1 ++ i :: l2) brs).paths := by
              rcases paths_mem.1 hpp with ⟨hb, rfl⟩ | ⟨k, t, p', hkt, hp', rfl⟩
              · exact ⟨[], by simp, paths_mem.2 (.inl ⟨hb, by simp⟩)⟩
              · exact ⟨k :: p', rfl, paths_mem.2 (.inr ⟨k, t, p', hkt, hp', rfl⟩)⟩
            obtain ⟨r, rfl, hr⟩ := key
            obtain ⟨⟨p0', ho0', hs0'⟩, hl', hm'⟩ := hp _ hr
            have hsub : ((l1 ++ l2) ++ r).Sublist ((l1 ++ i :: l2) ++ r) := ((List.Sublist.refl l1).append (List.sublist_cons_self _ _)).append (List.Sublist.refl r)
            have hnd := (okPath_sub ho0' hs0').2.1
            refine ⟨⟨p0', ho0', hsub.trans hs0'⟩, by simp at hl' ⊢; omega, fun m hmz => listed2 m hmz _ _ (fun k => ?_) (hm' m hmz)⟩
            have hne : ∀ k, k ∈ (l1 ++ l2) ++ r → k ≠ i := by
              intro k hkm hki
              rw [hki] at hkm
              rw [List.append_assoc, List.cons_append, List.pairwise_append] at hnd
              obtain ⟨n1, n2, n3⟩ := hnd
              rw [List.append_assoc] at hkm
              rcases List.mem_append.1 hkm with hkm | hkm
              · have := n3 i hkm i (List.mem_cons_self ..)
                simp [pairT] at this
              · have := (List.pairwise_cons.1 n2).1 i hkm
                simp [pairT] at this
            constructor
            · intro hk; exact ⟨hsub.subset hk, hne k hk⟩
            · rintro ⟨hk, hki⟩
              simp only [List.mem_append, List.mem_cons] at hk ⊢
              rcases hk with (hk | hk | hk) | hk
              · exact .inl (.inl hk)
              · exact absurd hk hki
              · exact .inl (.inr hk)
              · exact .inr hk
          · simp only [wt]
            refine wl_monoQ (fun e' H'' hx => ⟨hx.1, wts_hist brs _ _ e' H'' (fun j hj => ?_) hx.2⟩) _ _ _ _ hk.2
            simp only [List.append_nil, List.mem_reverse, List.mem_append, List.mem_cons] at hj ⊢
            rcases hj with hj | hj
            · exact .inl hj
            · exact .inr (.inr hj)
        · intro j hj
          have hp := q3 j hj i (List.mem_cons_self ..)
          have hnb := pathnb _ hp1 j (by simp [hj])
          have hjq := List.all_eq_true.1 hqq j (List.mem_append_left _ hj)
          simp only [pairT, hnb, hoi, hjq, Bool.not_true, Bool.true_and, Bool.false_or, Bool.or_false, Bool.and_eq_true] at hp
          exact ⟨getO all j, getg j (qb j (List.mem_append_left _ hj)), hjq, hnb, hp.1.2⟩
      · -- one that changes memory: a branch
        have hqi' : quietO oi = false := by simpa using hqi
        obtain ⟨t, hit⟩ : ∃ t, (i, t) ∈ brs := by
          have hin := inp _ hp1
          rcases paths_mem.1 hp1 with ⟨_, heq⟩ | ⟨k, t, p', hkt, hp', heq⟩
          · rw [heq] at hin
            have := List.all_eq_true.1 hqq i hin
            rw [hoi, hqi'] at this; cases this
          · have hnb := pathnb _ hp1
            rw [heq] at hin hnb
            rcases List.mem_append.1 hin with hin | hin
            · have := List.all_eq_true.1 hqq i hin
              rw [hoi, hqi'] at this; cases this
            · rcases List.mem_cons.1 hin with rfl | hin
              · exact ⟨t, hkt⟩
              · rcases ((okL_mem hokL hkt).2.2 p' hp' i hin).2 (by rw [hoi]; exact hqi') with hx | ⟨j, hj, hx, _⟩
                · obtain ⟨⟨i', t'⟩, hm, rfl⟩ := List.mem_map.1 hx
                  exact ⟨t', hm⟩
                · rw [hnb j (List.mem_append_right _ hj)] at hx; cases hx
        obtain ⟨tq, tb⟩ := t
        obtain ⟨hie, htok, _⟩ := okL_mem hokL hit
        have hsn : wl P W0 all (befOf all) (fun e' H' => wt P W0 all (befOf all) Q (.node tq tb) (q.reverse ++ []) e' H') [] (q ++ [i]) e H := by
          refine wl_then q [] [i] e H qquiet (fun e' H' hx => ?_) h
          obtain ⟨o, ho, hr⟩ := wts_mem hx.2 hit
          rw [h2] at ho; injection ho with ho; subst ho
          simp only [wl, h2, hqi', Bool.false_eq_true, if_false]
          exact hr
        obtain ⟨pt, hpt⟩ := List.exists_mem_of_ne_nil _ (Tr.paths_ne (.node tq tb))
        have hpi := paths_mem.2 (.inr ⟨i, .node tq tb, pt, hit, hpt, rfl⟩ : (brs = [] ∧ q ++ i :: pt = q) ∨ ∃ i' t p', (i', t) ∈ brs ∧ p' ∈ t.paths ∧ q ++ i :: pt = q ++ i' :: p')
        obtain ⟨⟨p0', ho0', hs0'⟩, _, _⟩ := hp _ hpi
        obtain ⟨b1, b2, b3⟩ := okPath_sub ho0' hs0'
        have hmv := move (Q := fun e' H' => wt P W0 all (befOf all) Q (.node tq tb) (q.reverse ++ []) e' H') (bef := befOf all) h2 q [] [] [] e H ?_ (fun _ h => by cases h) (fun _ h => by cases h) ?_ hsn
        · refine ⟨oi, h2, raw1_mono (fun v H' hk => ih (listed.setIfInBounds i true) (q ++ tq) tb _ _ ?_ ?_ (by simp [hz]) closed2 ?_) hmv⟩
          · simp only [Tr.ok, Bool.and_eq_true] at htok ⊢
            exact ⟨by rw [List.all_append, hqq, htok.1]; rfl, htok.2⟩
          · intro p hpp
            have key : ∃ r, p = q ++ r ∧ r ∈ (Tr.node tq tb).paths := by
              rcases paths_mem.1 hpp with ⟨hb, rfl⟩ | ⟨k, u, p', hku, hp', rfl⟩
              · exact ⟨tq, rfl, paths_mem.2 (.inl ⟨hb, rfl⟩)⟩
              · exact ⟨tq ++ k :: p', by simp, paths_mem.2 (.inr ⟨k, u, p', hku, hp', rfl⟩)⟩
            obtain ⟨r, rfl, hr⟩ := key
            obtain ⟨⟨p0', ho0', hs0'⟩, hl', hm'⟩ := hp _ (paths_mem.2 (.inr ⟨i, .node tq tb, r, hit, hr, rfl⟩))
            have hsub : (q ++ r).Sublist (q ++ i :: r) := (List.Sublist.refl q).append (List.sublist_cons_self _ _)
            have hnd := (okPath_sub ho0' hs0').2.1
            refine ⟨⟨p0', ho0', hsub.trans hs0'⟩, by simp at hl' ⊢; omega, fun m hmz => listed2 m hmz _ _ (fun k => ?_) (hm' m hmz)⟩
            rw [List.pairwise_append] at hnd
            obtain ⟨n1, n2, n3⟩ := hnd
            have hne : ∀ k, k ∈ q ++ r → k ≠ i := by
              intro k hkm hki
              rw [hki] at hkm
              rcases List.mem_append.1 hkm with hkm | hkm
              · have := n3 i hkm i (List.mem_cons_self ..)
                simp [pairT] at this
              · have := (List.pairwise_cons.1 n2).1 i hkm
                simp [pairT] at this
            constructor
            · intro hk; exact ⟨hsub.subset hk, hne k hk⟩
            · rintro ⟨hk, hki⟩
              simp only [List.mem_append, List.mem_cons] at hk ⊢
              rcases hk with hk | hk | hk
              · exact .inl hk
              · exact absurd hk hki
              · exact .inr hk
          · have hk2 := hk.2
            simp only [List.append_nil] at hk2
            simp only [wt] at hk2 ⊢
            refine wl_then q [] tq _ _ qquiet (fun e' H'' hx => ?_) hk2
            simp only [List.append_nil] at hx ⊢
            refine wl_monoQ (fun e'' H3 hy => ⟨hy.1, wts_hist tb _ _ _ _ (fun j hj => ?_) hy.2⟩) _ _ _ _ hx
            simpa [List.reverse_append] using hj
        · intro j hj
          have hp := (List.pairwise_append.1 b2).2.2 j hj i (List.mem_cons_self ..)
          have hnb := pathnb _ hp1 j (List.mem_append_left _ hj)
          have hjq := List.all_eq_true.1 hqq j hj
          simp only [pairT, hnb, hoi, hqi', hjq, Bool.not_true, Bool.false_and, Bool.false_or, Bool.or_false, Bool.true_and, Bool.and_eq_true] at hp
          exact ⟨getO all j, getg j (qb j hj), hjq, hnb, hp.1.2⟩
        · intro _
          refine ⟨?_, fun _ h => by cases h⟩
          have hq := b3 i (by simp) hie
          have hq := (List.pairwise_append.1 hq).1
          refine hq.imp_of_mem ?_
          intro j k hj hk ht a b ha hb
          have hnj := pathnb _ hp1 j (List.mem_append_left _ hj)
          have hnk := pathnb _ hp1 k (List.mem_append_left _ hk)
          have hp := (List.pairwise_append.1 b2).2.2 k hk i (List.mem_cons_self ..)
          simp only [pairT, Bool.and_eq_true, Bool.not_eq_true'] at hp
          simp only [tripOk, hnj, hnk, hp.1.1.1, Bool.false_or] at ht
          rw [getO_eq ha, getO_eq hb] at ht
          exact ht
/-- A region whose order is drawn: one order by which the others go; or a tree of orders. -/
def adraw (P : Program) (W0 : World) (ops : Array Oper) (Q : Env → AH → Prop) (e : Env) (H : AH) : Prop :=
  P.follows .mixedOrders = true ∧ ((∃ ord : List Nat, okDraw ops ord = true ∧ ord.length = ops.size ∧ wl P W0 ops (befOf ops) Q [] ord e H) ∨ ∃ t : Tr, okTree ops t = true ∧ wt P W0 ops (befOf ops) Q t [] e H)
theorem adraw_any {ops : Array Oper} {e : Env} {H : AH} (h : adraw P W0 ops Q e H) : P.follows .mixedOrders = true ∧ awpAny P W0 ops Q ops.size (Array.replicate ops.size false) e H := by
  have hclo : Closed ops (fun i => (Array.replicate ops.size false).getD i false) := by
    intro i hi
    simp only [Array.getD_eq_getD_getElem?, Array.getElem?_replicate] at hi
    split at hi <;> cases hi
  obtain ⟨hf, ⟨ord, hok, hl, h⟩ | ⟨⟨q, brs⟩, hok, h⟩⟩ := h
  · refine ⟨hf, wl_any hok ops.size _ ord e H (List.Sublist.refl _) hl (by simp) ?_ hclo h⟩
    intro i hi
    simp only [okDraw, Bool.and_eq_true, List.all_eq_true, List.mem_range] at hok
    have := hok.1.1.1 i hi
    simp only [Array.getD_eq_getD_getElem?, Array.getElem?_replicate, hi, if_true, Option.getD_some, true_iff]
    simpa using this
  · simp only [okTree, Bool.and_eq_true, List.all_eq_true, List.mem_range] at hok
    refine ⟨hf, wt_any ops.size _ q brs e H hok.1 (fun p hp => ?_) (by simp) hclo h⟩
    obtain ⟨⟨h1, h2⟩, h3⟩ := hok.2 p hp
    refine ⟨⟨p, h2, List.Sublist.refl _⟩, by simpa using h3, fun i hi => ?_⟩
    have := h1 i hi
    simp only [Array.getD_eq_getD_getElem?, Array.getElem?_replicate, hi, if_true, Option.getD_some, true_iff]
    simpa using this
end
section
/-! The calculus 'Aw', part 8: regions, code, calls. -/
open Go Go.RowKit
set_option linter.unusedVariables false
set_option linter.unusedSimpArgs false
set_option linter.unusedSectionVars false

/-- Operations one behind the other. A guard that is decided is noted in the frame. -/
def aops (P : Program) (W0 : World) (all : Array Oper) : List Oper → (Env → AH → Prop) → Env → AH → Prop
  | [], Q, e, H => Q e H
  | o :: os, Q, e, H =>
    match o.guard with
    | none => aop P W0 o.op e H fun v H' => aops P W0 all os Q (putA o.dst v e) H'
    | some (j, want) =>
      match gtmp all j with
      | some t =>
        match e t with
        | .v (.bool b) =>
          if b = want then aop P W0 o.op (upd e t (.v (.bool want))) H fun v H' => aops P W0 all os Q (putA o.dst v (upd e t (.v (.bool want)))) H'
          else aops P W0 all os Q (putA o.dst (.v undef) (upd e t (.v (.bool !want)))) H
        | .v (.tuple _) => aops P W0 all os Q (putA o.dst (.v undef) e) H
        | _ => False
      | none => False

inductive AX where
  | normal
  | exit (n : Nat)
  | ret

mutual
/-- A value leads to no block from n on. -/
def refsLt (n : Nat) : AV → Prop
  | .v _ => True
  | .dead => True
  | .ptr b _ => b < n
  | .sl b _ _ => b < n
  | .slc b _ _ _ => b < n
  | .sl0 => True
  | .agg l => refsLts n l
  | .tup l => refsLts n l
  | .fn _ l => refsLts n l
def refsLts (n : Nat) : List AV → Prop
  | [] => True
  | a :: l => refsLt n a ∧ refsLts n l
end
/-- Memory may be forgotten: blocks that are no longer asked for; slots that are not read any more. -/
def FgtH (N0 : Nat) (H H1 : AH) : Prop := H1 = H ∨
  N0 ≤ H1.nxt ∧ (∀ b B, H1.blk b = some B → H.blk b = some B) ∧ H1.wf ∧ (H1.nxt = H.nxt ∨ H1.nxt ≤ H.nxt ∧ ∀ b B, H1.blk b = some B → refsLts H1.nxt B.cells)
def FgtV (H H1 : AH) (v : AV) : Prop := H1.nxt = H.nxt ∨ refsLt H1.nxt v
def Fgt (N0 : Nat) (e : Env) (H : AH) (e1 : Env) (H1 : AH) : Prop := FgtH N0 H H1 ∧ ∀ t, e1 t = .dead ∨ e1 t = e t ∧ FgtV H H1 (e1 t)

def loopQ (I : Env → AH → Prop) (Q : AX → Env → AH → Prop) : AX → Env → AH → Prop
  | .normal, e, H => I e H
  | .exit n, e, H => Q (.exit n) e H
  | .ret, e, H => Q .ret e H
def blockQ (id : Nat) (Q : AX → Env → AH → Prop) : AX → Env → AH → Prop
  | .exit j, e, H => if j = id then Q .normal e H else Q (.exit j) e H
  | .normal, e, H => Q .normal e H
  | .ret, e, H => Q .ret e H
/-- A loop's head: some invariant, told by a number that falls. -/
def Head (N0 : Nat) (I : Nat → Env → AH → Prop) (n : Nat) (e : Env) (H : AH) : Prop := ∃ m e1 H1, m < n ∧ Fgt N0 e H e1 H1 ∧ I m e1 H1
def acode (P : Program) (W0 : World) (N0 : Nat) : Code → (AX → Env → AH → Prop) → Env → AH → Prop
  | .skip, Q, e, H => Q .normal e H
  | .region _ ops draw, Q, e, H => if draw = true then adraw P W0 ops (Q .normal) e H else aops P W0 ops ops.toList (Q .normal) e H
  | .seq a b, Q, e, H => acode P W0 N0 a (loopQ (acode P W0 N0 b Q) Q) e H
  | .cond c a b, Q, e, H => match ev e c with
    | .v (.bool t) => if t = true then acode P W0 N0 a Q e H else acode P W0 N0 b Q e H
    | _ => False
  | .block id c, Q, e, H => acode P W0 N0 c (blockQ id Q) e H
  | .loop c, Q, e, H => ∃ (I : Nat → Env → AH → Prop) (n : Nat), Head N0 I n e H ∧ ∀ n e H, I n e H → acode P W0 N0 c (loopQ (Head N0 I n) Q) e H
  | .exit id, Q, e, H => Q (.exit id) e H
  | .ret, Q, e, H => Q .ret e H
  | _, Q, e, H => False
def dstsOk (n : Nat) : Code → Bool
  | .region _ ops _ => ops.all fun o => match o.dst with | some t => decide (t < n) | none => true
  | .seq a b => dstsOk n a && dstsOk n b
  | .cond _ a b => dstsOk n a && dstsOk n b
  | .block _ c => dstsOk n c
  | .loop c => dstsOk n c
  | _ => true

variable {P : Program} {W0 : World}

mutual
theorem VR.cut {φ : Phi} {n : Nat} : {a : AV} → {y : Value} → VR φ a y → refsLt n a → VR (fun b => if b < n then φ b else none) a y
  | _, _, .v x, _ => .v x
  | _, _, .ptr h, hr => .ptr (by simp only [refsLt] at hr; simp only [hr, if_true]; exact h)
  | _, _, .sl h1 h2 h3, hr => .sl (by simp only [refsLt] at hr; simp only [hr, if_true]; exact h1) h2 h3
  | _, _, .slc h1 h2 h3, hr => .slc (by simp only [refsLt] at hr; simp only [hr, if_true]; exact h1) h2 h3
  | _, _, .sl0 a, _ => .sl0 a
  | _, _, .agg h, hr => .agg (VRs.cut h hr)
  | _, _, .tup h, hr => .tup (VRs.cut h hr)
  | _, _, .fn h, hr => .fn (VRs.cut h hr)
  | _, _, .dead y, _ => .dead y
theorem VRs.cut {φ : Phi} {n : Nat} : {l : List AV} → {ys : List Value} → VRs φ l ys → refsLts n l → VRs (fun b => if b < n then φ b else none) l ys
  | _, _, .nil, _ => .nil
  | _, _, .cons h k, hr => .cons (VR.cut h hr.1) (VRs.cut k hr.2)
end
theorem refsLts_get {n : Nat} : {l : List AV} → refsLts n l → ∀ (i : Nat) (a : AV), l[i]? = some a → refsLt n a
  | [], _, i, a, h => by simp at h
  | b :: l, hr, 0, a, h => by simp at h; exact h ▸ hr.1
  | b :: l, hr, i + 1, a, h => refsLts_get hr.2 i a (by simpa using h)

/-- Memory is forgotten. -/
theorem Inv.forget {W : World} {φ0 φ : Phi} {N0 : Nat} {H H1 : AH} (hI : Inv W0 φ H W) (h : FgtH N0 H H1) (hx : Ext φ0 φ) (h00 : ∀ b, N0 ≤ b → φ0 b = none) :
    ∃ φ1, Inv W0 φ1 H1 W ∧ Ext φ0 φ1 ∧ ∀ v y, FgtV H H1 v → VR φ v y → VR φ1 v y := by
  rcases h with h | ⟨hN, h1, h2, h3⟩
  · subst h; exact ⟨φ, hI, hx, fun _ _ _ hv => hv⟩
  have h0 : ∀ b, H1.nxt ≤ b → φ0 b = none := fun b hb => h00 b (Nat.le_trans hN hb)
  have sub : ∀ b, (H1.blk b).isSome = true → (H.blk b).isSome = true := by
    intro b hb
    obtain ⟨B, hB⟩ := Option.isSome_iff_exists.1 hb
    rw [h1 b B hB]; rfl
  rcases h3 with h3 | ⟨h3, h4⟩
  · exact ⟨φ, ⟨hI.below, fun b B hB => hI.blks b B (h1 b B hB), fun b b' p p' hb hb' => hI.inj b b' p p' (sub b hb) (sub b' hb'), h2, fun b hb => hI.non b (by omega)⟩, hx, fun v y _ hv => hv⟩
  · by_cases heq : H1.nxt = H.nxt
    · exact ⟨φ, ⟨hI.below, fun b B hB => hI.blks b B (h1 b B hB), fun b b' p p' hb hb' => hI.inj b b' p p' (sub b hb) (sub b' hb'), h2, fun b hb => hI.non b (by omega)⟩, hx, fun v y _ hv => hv⟩
    refine ⟨fun b => if b < H1.nxt then φ b else none, ⟨hI.below, ?_, ?_, h2, ?_⟩, ?_, ?_⟩
    · intro b B hB
      have hb : b < H1.nxt := by
        rcases Nat.lt_or_ge b H1.nxt with h | h
        · exact h
        · rw [h2 b h] at hB; cases hB
      obtain ⟨p, k0, k1, k2, k3, C, e, k4, k5, k6⟩ := hI.blks b B (h1 b B hB)
      refine ⟨p, by simp only [hb, if_true]; exact k0, k1, k2, k3, C, e, k4, k5, fun j v hj => ?_⟩
      obtain ⟨y, hy, hv⟩ := k6 j v hj
      exact ⟨y, hy, hv.cut (refsLts_get (h4 b B hB) j v hj)⟩
    · intro b b' p p' hb hb' hp hp'
      have e1 : φ b = some p := by
        split at hp
        · exact hp
        · cases hp
      have e2 : φ b' = some p' := by
        split at hp'
        · exact hp'
        · cases hp'
      exact hI.inj b b' p p' (sub b hb) (sub b' hb') e1 e2
    · intro b hb
      rw [if_neg (by omega)]
    · intro b p hp
      have hb : b < H1.nxt := by
        rcases Nat.lt_or_ge b H1.nxt with h | h
        · exact h
        · rw [h0 b h] at hp; cases hp
      simp only [hb, if_true]
      exact hx b p hp
    · intro v y hv hvr
      rcases hv with hv | hv
      · exact absurd hv heq
      · exact hvr.cut hv

/-- The frame, held against the machine's. -/
structure Rel (W0 : World) (φ0 φ : Phi) (e : Env) (H : AH) (a : Act) (W : World) (n : Nat) : Prop where
  inv : Inv W0 φ H W
  er : ER φ e a.tmps
  ext : Ext φ0 φ
  defers : a.defers = []
  size : a.tmps.size = n

theorem getD_set (t : Array Value) (d i : Nat) (v : Value) (h : d < t.size) : (t.setIfInBounds d v).getD i undef = if i = d then v else t.getD i undef := by
  by_cases hi : i = d
  · subst hi
    simp [h]
  · rw [if_neg hi]
    by_cases h2 : i < t.size
    · simp [Array.getElem_setIfInBounds, h2, Ne.symm hi]
    · simp [h2]
theorem ER.put {φ : Phi} {e : Env} {a : Act} (h : ER φ e a.tmps) {dst : Option Nat} (hd : ∀ t, dst = some t → t < a.tmps.size) {v : AV} {y : Value} (hv : VR φ v y) : ER φ (putA dst v e) (a.put dst y).tmps := by
  cases dst with
  | none => exact h
  | some d =>
    intro t
    simp only [putA, upd, Act.put]
    rw [getD_set _ _ _ _ (hd d rfl)]
    split
    · exact hv
    · exact h t
theorem ER.ve {φ : Phi} {e : Env} {a : Act} (h : ER φ e a.tmps) : VE φ e a.eval := fun x => h.ev x
theorem ER.same {φ : Phi} {e : Env} {t : Array Value} (h : ER φ e t) {d : Nat} {b : Bool} (hd : e d = .v (.bool b)) : ER φ (upd e d (.v (.bool b))) t := by
  intro i
  simp only [upd]
  split
  · subst_vars; rw [← hd]; exact h _
  · exact h i
theorem Rel.put {φ0 φ φ' : Phi} {e : Env} {H H' : AH} {a : Act} {W W' : World} {n : Nat} (h : Rel W0 φ0 φ e H a W n) (hI : Inv W0 φ' H' W') (hx : Ext φ φ') {dst : Option Nat} (hd : ∀ t, dst = some t → t < n) {v : AV} {y : Value} (hv : VR φ' v y) :
    Rel W0 φ0 φ' (putA dst v e) H' (a.put dst y) W' n := by
  refine ⟨hI, (h.er.ext hx).put (by rw [h.size]; exact hd) hv, h.ext.trans hx, ?_, ?_⟩
  · cases dst <;> exact h.defers
  · cases dst <;> simp [Act.put, h.size]

def XM : AX → Exit → Prop
  | .normal, .normal => True
  | .exit n, .exit m => n = m
  | .ret, .ret => True
  | _, _ => False
def CQ (W0 : World) (φ0 : Phi) (n : Nat) (Q : AX → Env → AH → Prop) : Exit → Act → World → Prop := fun x a W => ∃ ax e H φ, XM ax x ∧ Rel W0 φ0 φ e H a W n ∧ Q ax e H

theorem op_step {φ0 φ : Phi} {e : Env} {H : AH} {a : Act} {W : World} {n : Nat} (hr : Rel W0 φ0 φ e H a W n) {o : Oper} (hd : ∀ t, o.dst = some t → t < n) {K : AV → AH → Prop} (h : aop P W0 o.op e H K) {next : Act → World → Prop} {Q : Exit → Act → World → Prop}
    (hk : ∀ v H' φ' a' W', K v H' → Rel W0 φ0 φ' (putA o.dst v e) H' a' W' n → next a' W') : o.wp P a W next Q := by
  unfold Oper.wp
  rcases aop_ok hr.inv hr.er.ve h with ⟨y, W', h1, v, H', φ', h2, h3, h4, h5⟩ | ⟨W', h1, v, H', φ', h2, h3, h4, h5⟩ | ⟨f, args, W', h1, h2⟩
  · rw [h1, Oper.upon_value]
    exact hk v H' φ' _ _ h5 (hr.put h3 h4 hd h2)
  · rw [h1, Oper.upon_skip]
    exact hk v H' φ' _ _ h5 (hr.put h3 h4 hd h2)
  · rw [h1, Oper.upon_enter]
    refine h2.mono ?_
    rintro ee W'' ⟨y, rfl, v, H', φ', h2, h3, h4, h5⟩
    exact hk v H' φ' _ _ h5 (hr.put h3 h4 hd h2)

theorem wanted_none {o : Oper} (h : o.guard = none) (y : Nat → Option Bool) : Region.wanted o y = true := by simp [Region.wanted, h]
theorem yielded_bool {φ : Phi} {e : Env} {a : Act} {all : Array Oper} {j t : Nat} {b : Bool} (her : ER φ e a.tmps) (ht : gtmp all j = some t) (hb : e t = .v (.bool b)) : yielded all a.tmps j = some b := by
  have h1 := her t
  rw [hb] at h1
  have h2 := h1.v_eq
  unfold yielded
  unfold gtmp at ht
  rw [ht]
  simp only [Option.bind_some]
  have : a.tmps[t]? = some (.bool b) := by
    rw [Array.getD_eq_getD_getElem?] at h2
    cases hq : a.tmps[t]? with
    | none => rw [hq] at h2; cases h2
    | some v => rw [hq] at h2; simp at h2; rw [h2]
  rw [this]
theorem yielded_tuple {φ : Phi} {e : Env} {a : Act} {all : Array Oper} {j t : Nat} {vs : Array Value} (her : ER φ e a.tmps) (ht : gtmp all j = some t) (hb : e t = .v (.tuple vs)) : yielded all a.tmps j = none := by
  have h1 := her t
  rw [hb] at h1
  have h2 := h1.v_eq
  unfold yielded
  unfold gtmp at ht
  rw [ht]
  simp only [Option.bind_some]
  cases hq : a.tmps[t]? with
  | none => rfl
  | some v =>
    rw [Array.getD_eq_getD_getElem?, hq] at h2
    simp at h2
    subst h2
    rfl

theorem ops_sound {φ0 : Phi} {n : Nat} {all : Array Oper} {Q : Env → AH → Prop} {CQ' : Exit → Act → World → Prop} (hq : ∀ φ e H a W, Q e H → Rel W0 φ0 φ e H a W n → CQ' .normal a W) :
    ∀ (os : List Oper) (i : Nat), (∀ k, os[k]? = all[i + k]?) → (∀ o ∈ os, ∀ t, o.dst = some t → t < n) → ∀ (φ : Phi) (e : Env) (H : AH) (a : Act) (W : World), Rel W0 φ0 φ e H a W n → aops P W0 all os Q e H →
      wpOps P all CQ' ((List.range os.length).map (i + ·)) a W
  | [], i, hi, hd, φ, e, H, a, W, hr, h => hq φ e H a W h hr
  | o :: os, i, hi, hd, φ, e, H, a, W, hr, h => by
    have ih := fun φ e H a W => ops_sound (φ0 := φ0) (n := n) (all := all) (CQ' := CQ') hq os (i + 1) (fun k => by have := hi (k + 1); simpa [Nat.add_assoc, Nat.add_comm 1 k] using this) (fun o ho => hd o (List.mem_cons_of_mem _ ho)) φ e H a W
    have hl : (List.range (o :: os).length).map (i + ·) = i :: (List.range os.length).map (i + 1 + ·) := by
      rw [List.length_cons, List.range_succ_eq_map, List.map_cons, List.map_map]
      congr 1
      apply List.map_congr_left
      intro k _
      simp; omega
    have ho : all[i]? = some o := by have := hi 0; simpa using this.symm
    have hdo := hd o (List.mem_cons_self ..)
    rw [hl]
    simp only [wpOps, ho]
    simp only [aops] at h
    split at h
    · rename_i hg
      rw [if_pos (wanted_none hg _)]
      exact .inl (op_step hr hdo h fun v H' φ' a' W' hk hr' => ih _ _ _ _ _ hr' hk)
    · rename_i j want hg
      split at h
      case h_2 => exact h.elim
      rename_i t ht
      split at h
      · rename_i b hb
        have hy := yielded_bool hr.er ht hb
        by_cases hbw : b = want
        · rw [if_pos hbw] at h
          subst hbw
          have hr2 : Rel W0 φ0 φ (upd e t (.v (.bool b))) H a W n := ⟨hr.inv, hr.er.same hb, hr.ext, hr.defers, hr.size⟩
          rw [if_pos (by simp [Region.wanted, hg, hy])]
          exact .inl (op_step hr2 hdo h fun v H' φ' a' W' hk hr' => ih _ _ _ _ _ hr' hk)
        · rw [if_neg hbw] at h
          have hbn : (!want) = b := by cases b <;> cases want <;> simp_all
          rw [hbn] at h
          have hr2 : Rel W0 φ0 φ (upd e t (.v (.bool b))) H a W n := ⟨hr.inv, hr.er.same hb, hr.ext, hr.defers, hr.size⟩
          rw [if_neg (by simp [Region.wanted, hg, hy, hbw])]
          exact ih _ _ _ _ _ (hr2.put hr.inv (Ext.refl _) hdo (.v undef)) h
      · rename_i vs hb
        have hy := yielded_tuple hr.er ht hb
        rw [if_neg (by simp [Region.wanted, hg, hy])]
        exact ih _ _ _ _ _ (hr.put hr.inv (Ext.refl _) hdo (.v undef)) h
      · exact h.elim

theorem any_sound {φ0 : Phi} {n : Nat} {ops : Array Oper} {Q : Env → AH → Prop} {CQ' : Exit → Act → World → Prop} (hq : ∀ φ e H a W, Q e H → Rel W0 φ0 φ e H a W n → CQ' .normal a W)
    (hd : ∀ o ∈ ops.toList, ∀ t, o.dst = some t → t < n) : ∀ (f : Nat) (listed : Array Bool) (φ : Phi) (e : Env) (H : AH) (a : Act) (W : World), Rel W0 φ0 φ e H a W n → awpAny P W0 ops Q f listed e H → wpAny P .any ops CQ' f listed a W
  | 0, listed, φ, e, H, a, W, hr, h => ⟨h.1, hq _ _ _ _ _ h.2 hr⟩
  | f + 1, listed, φ, e, H, a, W, hr, h => by
    refine ⟨fun hn => hq _ _ _ _ _ (h.1 hn) hr, fun i hi => ?_⟩
    obtain ⟨o, ho, hraw⟩ := h.2 i hi
    have hdo := hd o (Array.mem_toList_iff.2 (Array.mem_of_getElem? ho))
    have ih := any_sound hq hd f (listed.setIfInBounds i true)
    simp only [wpOp, ho]
    unfold raw1 at hraw
    have hw : ∀ b, want1 ops e o = some b → Region.wanted o (yielded ops a.tmps) = b := by
      intro b hb
      unfold want1 at hb
      split at hb
      · rename_i hg
        injection hb with hb
        rw [wanted_none hg, hb]
      · rename_i j w hg
        split at hb
        · rename_i t ht
          split at hb
          · rename_i c hc
            injection hb with hb
            simp [Region.wanted, hg, yielded_bool hr.er ht hc, ← hb]
          · rename_i vs hc
            injection hb with hb
            simp [Region.wanted, hg, yielded_tuple hr.er ht hc, ← hb]
          · cases hb
        · cases hb
    split at hraw
    · rename_i hb
      rw [if_pos (hw _ hb)]
      exact .inl (op_step hr hdo hraw fun v H' φ' a' W' hk hr' => ih _ _ _ _ _ hr' hk)
    · rename_i hb
      rw [if_neg (by rw [hw _ hb]; decide)]
      exact ih _ _ _ _ _ (hr.put hr.inv (Ext.refl _) hdo (.v undef)) hraw
    · exact hraw.elim
theorem draw_sound {φ0 : Phi} {n : Nat} {id : Nat} {ops : Array Oper} {Q : Env → AH → Prop} {CQ' : Exit → Act → World → Prop} (hq : ∀ φ e H a W, Q e H → Rel W0 φ0 φ e H a W n → CQ' .normal a W)
    (hd : ∀ o ∈ ops.toList, ∀ t, o.dst = some t → t < n) {φ : Phi} {e : Env} {H : AH} {a : Act} {W : World} (hr : Rel W0 φ0 φ e H a W n) (h : adraw P W0 ops Q e H) : (Code.region id ops true).wp P CQ' a W := by
  obtain ⟨hf, h⟩ := adraw_any h
  exact wp_region_any hf (any_sound hq hd _ _ φ e H a _ ⟨hr.inv.drawn _, hr.er, hr.ext, hr.defers, hr.size⟩ h)

/-- A loop from its head on. -/
def LoopWp (P : Program) (c : Code) (Q : Exit → Act → World → Prop) (a : Act) (w : World) : Prop :=
  ∀ (b : Frame) (k : List Item) (cs : List Frame), ∃ e a' w', Q e a' w' ∧ Arrives P (lone (b.at a (.code c :: .inLoop c :: k)) cs w) b k cs e a' w'
theorem wp_of_loopWp {c : Code} {Q : Exit → Act → World → Prop} {a : Act} {w : World} (h : LoopWp P c Q a w) : (Code.loop c).wp P Q a w :=
  fun b k cs => let ⟨e, a', w', q, r⟩ := h b k cs; ⟨e, a', w', q, .of_steps (.one step_loop) r⟩
theorem loopWp_step {c : Code} {Q : Exit → Act → World → Prop} {a : Act} {w : World} (h : c.wp P (Exit.then (LoopWp P c Q) Q) a w) : LoopWp P c Q a w := by
  intro b k cs
  obtain ⟨e, a1, w1, hq, harr⟩ := h b (.inLoop c :: k) cs
  cases e with
  | normal =>
    obtain ⟨e2, a2, w2, hq2, harr2⟩ := hq b k cs
    exact ⟨e2, a2, w2, hq2, .of_steps (Steps.trans harr (.one step_inLoop)) harr2⟩
  | exit id => exact ⟨_, a1, w1, hq, .pass (x := .inLoop c) rfl (fun _ _ => .inl (by simp)) harr⟩
  | goto l => exact ⟨_, a1, w1, hq, .pass (x := .inLoop c) rfl (fun _ _ => .inl (by simp)) harr⟩
  | ret => exact ⟨_, a1, w1, hq, .pass (x := .inLoop c) rfl (fun _ _ => .inl (by simp)) harr⟩
  | panic ch => exact ⟨_, a1, w1, hq, .pass (x := .inLoop c) rfl (fun _ _ => .inl (by simp)) harr⟩
  | outgrown => exact ⟨_, a1, w1, hq, .pass (x := .inLoop c) rfl (fun _ _ => .inl (by simp)) harr⟩

theorem CQ.exit {φ0 : Phi} {n : Nat} {Q : AX → Env → AH → Prop} {id : Nat} {a : Act} {W : World} : CQ W0 φ0 n Q (.exit id) a W ↔ ∃ e H φ, Rel W0 φ0 φ e H a W n ∧ Q (.exit id) e H := by
  constructor
  · rintro ⟨ax, e, H, φ, hx, hr, hq⟩
    cases ax <;> simp only [XM] at hx
    subst hx
    exact ⟨e, H, φ, hr, hq⟩
  · rintro ⟨e, H, φ, hr, hq⟩
    exact ⟨.exit id, e, H, φ, rfl, hr, hq⟩
theorem CQ.normal {φ0 : Phi} {n : Nat} {Q : AX → Env → AH → Prop} {a : Act} {W : World} : CQ W0 φ0 n Q .normal a W ↔ ∃ e H φ, Rel W0 φ0 φ e H a W n ∧ Q .normal e H := by
  constructor
  · rintro ⟨ax, e, H, φ, hx, hr, hq⟩
    cases ax <;> simp only [XM] at hx
    exact ⟨e, H, φ, hr, hq⟩
  · rintro ⟨e, H, φ, hr, hq⟩
    exact ⟨.normal, e, H, φ, trivial, hr, hq⟩
theorem CQ.ret {φ0 : Phi} {n : Nat} {Q : AX → Env → AH → Prop} {a : Act} {W : World} : CQ W0 φ0 n Q .ret a W ↔ ∃ e H φ, Rel W0 φ0 φ e H a W n ∧ Q .ret e H := by
  constructor
  · rintro ⟨ax, e, H, φ, hx, hr, hq⟩
    cases ax <;> simp only [XM] at hx
    exact ⟨e, H, φ, hr, hq⟩
  · rintro ⟨e, H, φ, hr, hq⟩
    exact ⟨.ret, e, H, φ, trivial, hr, hq⟩
theorem CQ.then {φ0 : Phi} {n : Nat} {I : Env → AH → Prop} {Q : AX → Env → AH → Prop} {next : Act → World → Prop} (hn : ∀ e H φ a W, I e H → Rel W0 φ0 φ e H a W n → next a W) :
    ∀ x a W, CQ W0 φ0 n (loopQ I Q) x a W → Exit.then next (CQ W0 φ0 n Q) x a W := by
  intro x a W h
  cases x with
  | normal =>
    obtain ⟨e, H, φ, hr, hq⟩ := CQ.normal.1 h
    exact hn e H φ a W hq hr
  | exit id =>
    obtain ⟨e, H, φ, hr, hq⟩ := CQ.exit.1 h
    exact CQ.exit.2 ⟨e, H, φ, hr, hq⟩
  | ret =>
    obtain ⟨e, H, φ, hr, hq⟩ := CQ.ret.1 h
    exact CQ.ret.2 ⟨e, H, φ, hr, hq⟩
  | _ => obtain ⟨ax, e, H, φ, hx, hr, hq⟩ := h; cases ax <;> simp only [XM] at hx

theorem code_sound {N0 n : Nat} {φ0 : Phi} (h0 : ∀ b, N0 ≤ b → φ0 b = none) : ∀ (c : Code) (Q : AX → Env → AH → Prop) (φ : Phi) (e : Env) (H : AH) (a : Act) (W : World), dstsOk n c = true → Rel W0 φ0 φ e H a W n → acode P W0 N0 c Q e H →
    c.wp P (CQ W0 φ0 n Q) a W := by
  intro c
  induction c with
  | skip => intro Q φ e H a W hd hr h; exact wp_skip (CQ.normal.2 ⟨e, H, φ, hr, h⟩)
  | region id ops draw =>
    intro Q φ e H a W hd hr h
    have hdo : ∀ o ∈ ops.toList, ∀ t, o.dst = some t → t < n := by
      intro o ho t ht
      simp only [dstsOk, Array.all_eq_true_iff_forall_mem] at hd
      have := hd o (Array.mem_toList_iff.1 ho)
      rw [ht] at this
      simpa using this
    have hq : ∀ φ e H a W, Q .normal e H → Rel W0 φ0 φ e H a W n → CQ W0 φ0 n Q .normal a W := fun φ e H a W hq hr => CQ.normal.2 ⟨e, H, φ, hr, hq⟩
    simp only [acode] at h
    cases draw with
    | true => exact draw_sound hq hdo hr (by simpa using h)
    | false =>
      simp only [Bool.false_eq_true, if_false] at h
      refine wp_region ?_
      have := ops_sound (P := P) (all := ops) (CQ' := CQ W0 φ0 n Q) hq ops.toList 0 (fun k => by simp) hdo φ e H a W hr h
      simpa using this
  | seq x y ihx ihy =>
    intro Q φ e H a W hd hr h
    simp only [dstsOk, Bool.and_eq_true] at hd
    refine wp_seq (wp_mono (ihx _ φ e H a W hd.1 hr h) ?_)
    exact CQ.then fun e H φ a W hi hr => ihy Q φ e H a W hd.2 hr hi
  | cond c x y ihx ihy =>
    intro Q φ e H a W hd hr h
    simp only [dstsOk, Bool.and_eq_true] at hd
    simp only [acode] at h
    split at h
    · rename_i t ht
      have h1 := hr.er.ve c
      rw [ht] at h1
      have h2 := h1.v_eq
      cases t with
      | true => exact wp_cond h2 (ihx Q φ e H a W hd.1 hr (by simpa using h))
      | false => exact wp_cond h2 (ihy Q φ e H a W hd.2 hr (by simpa using h))
    · exact h.elim
  | block id c ih =>
    intro Q φ e H a W hd hr h
    refine wp_block (wp_mono (ih _ φ e H a W hd hr h) ?_)
    intro x a W hc
    cases x with
    | normal => obtain ⟨e, H, φ, hr, hq⟩ := CQ.normal.1 hc; exact CQ.normal.2 ⟨e, H, φ, hr, hq⟩
    | ret => obtain ⟨e, H, φ, hr, hq⟩ := CQ.ret.1 hc; exact CQ.ret.2 ⟨e, H, φ, hr, hq⟩
    | exit j =>
      obtain ⟨e, H, φ, hr, hq⟩ := CQ.exit.1 hc
      simp only [blockQ] at hq
      simp only [Exit.inBlock]
      split at hq
      · rename_i hj; rw [if_pos hj]; exact CQ.normal.2 ⟨e, H, φ, hr, hq⟩
      · rename_i hj; rw [if_neg hj]; exact CQ.exit.2 ⟨e, H, φ, hr, hq⟩
    | _ => obtain ⟨ax, e, H, φ, hx, hr, hq⟩ := hc; cases ax <;> simp only [XM] at hx
  | loop c ih =>
    intro Q φ e H a W hd hr h
    obtain ⟨I, m, hh, hround⟩ := h
    refine wp_of_loopWp ?_
    have key : ∀ m e H φ a W, I m e H → Rel W0 φ0 φ e H a W n → LoopWp P c (CQ W0 φ0 n Q) a W := by
      intro m
      induction m using Nat.strongRecOn with
      | _ m ihm =>
        intro e H φ a W hi hr
        refine loopWp_step (wp_mono (ih _ φ e H a W hd hr (hround m e H hi)) ?_)
        refine CQ.then fun e H φ a W hh hr => ?_
        obtain ⟨m', e1, H1, hm, hf, hi1⟩ := hh
        obtain ⟨φ1, k1, k2, k3⟩ := hr.inv.forget hf.1 hr.ext h0
        refine ihm m' hm e1 H1 φ1 a W hi1 ⟨k1, fun t => ?_, k2, hr.defers, hr.size⟩
        rcases hf.2 t with hz | ⟨hz, hv⟩
        · rw [hz]; exact .dead _
        · exact k3 _ _ hv (by rw [hz]; exact hr.er t)
    obtain ⟨m', e1, H1, hm, hf, hi1⟩ := hh
    obtain ⟨φ1, k1, k2, k3⟩ := hr.inv.forget hf.1 hr.ext h0
    refine key m' e1 H1 φ1 a W hi1 ⟨k1, fun t => ?_, k2, hr.defers, hr.size⟩
    rcases hf.2 t with hz | ⟨hz, hv⟩
    · rw [hz]; exact .dead _
    · exact k3 _ _ hv (by rw [hz]; exact hr.er t)
  | exit id => intro Q φ e H a W hd hr h; exact wp_exit (CQ.exit.2 ⟨e, H, φ, hr, h⟩)
  | ret => intro Q φ e H a W hd hr h; exact wp_ret (CQ.ret.2 ⟨e, H, φ, hr, h⟩)
  | _ => intros; rename_i h; exact h.elim

/-- What a function hands back. -/
def resOne (P : Program) (W0 : World) (e : Env) (H : AH) : ResultVar → Option AV
  | .tmp t => some (e t)
  | .cell a t => match tyi P t with
    | some i => if i.agg = true ∨ i.size = 1 then (rdCells W0 H i.size (e a)).map (mkv i.agg) else none
    | none => none
def resAll (P : Program) (W0 : World) (rs : List ResultVar) (e : Env) (H : AH) : Option (List AV) := rs.mapM (resOne P W0 e H)
def retA (P : Program) (W0 : World) (N0 : Nat) (rs : List ResultVar) (R : AV → AH → Prop) : AX → Env → AH → Prop
  | .exit _, e, H => False
  | _, e, H => match resAll P W0 rs e H with
    | some [v] => ∃ H1, FgtH N0 H H1 ∧ FgtV H H1 v ∧ R v H1
    | some l => ∃ H1, FgtH N0 H H1 ∧ FgtV H H1 (.tup l) ∧ R (.tup l) H1
    | none => False
def env0 (args : List AV) : Env := fun t => args.getD t (.v undef)

def resSem (tmps : Array Value) : ResultVar → Sem Value
  | .tmp t => pure (tmps.getD t undef)
  | .cell a t => do loadVar t (← asAddr (tmps.getD a undef))
theorem results_eq (fn : Func) (tmps : Array Value) : results fn tmps = (do
    let vs ← fn.results.mapM (resSem tmps)
    pure (if h : vs.size = 1 then vs[0] else .tuple vs) : Sem Value) := by
  unfold results
  congr 2
theorem resAll_run {rs : List ResultVar} {φ : Phi} {e : Env} {H : AH} {a : Act} {W : World} (hI : Inv W0 φ H W) (her : ER φ e a.tmps) {l : List AV} (h : resAll P W0 rs e H = some l) :
    ∃ ys, (rs.mapM (resSem a.tmps)).run P W = .ok ys W ∧ VRs φ l ys := by
  unfold resAll at h
  induction rs generalizing l with
  | nil => simp at h; subst h; exact ⟨[], rfl, .nil⟩
  | cons r rs ih =>
    simp only [List.mapM_cons, Option.bind_eq_bind, Option.bind_eq_some_iff] at h
    obtain ⟨v, hv, l', hl', hl⟩ := h
    cases hl
    obtain ⟨ys, hys, hvs⟩ := ih hl'
    have h1 : ∃ y, (resSem a.tmps r).run P W = .ok y W ∧ VR φ v y := by
      cases r with
      | tmp t => simp only [resOne, Option.some.injEq] at hv; subst hv; exact ⟨_, rfl, her t⟩
      | cell a' t =>
        simp only [resOne] at hv
        split at hv
        · rename_i i hi
          split at hv
          · rename_i ha
            simp only [Option.map_eq_some_iff] at hv
            obtain ⟨cs, hcs, rfl⟩ := hv
            obtain ⟨u, hu, hvu⟩ := load_run hI hi ha (her a') hcs
            obtain ⟨ad, _, hy, _⟩ := hI.rd (her a') hcs
            refine ⟨u, ?_, hvu⟩
            rw [hy] at hu
            simp only [resSem, hy]
            simpa [Instr.loadAt, Instr.sureAddr, asAddr] using hu
          · cases hv
        · cases hv
    obtain ⟨y, hy, hvy⟩ := h1
    refine ⟨y :: ys, ?_, .cons hvy hvs⟩
    simp only [List.mapM_cons, Sem.run_bind, hy, hys, Result.andThen_ok, Sem.run_pure]

/-- A function's contract out of its code. -/
theorem acalls_of {f : FuncId} {fn : Func} {c : Code} (hf : P.funcs[f]? = some fn) (hb : fn.body = some c) (hc : callable P f = true) {args : List AV} (hd : dstsOk (args.length + (fn.ntmps - args.length)) c = true) {H : AH} {R : AV → AH → Prop}
    (h : acode P W0 H.nxt c (retA P W0 H.nxt fn.results.toList R) (env0 args) H) : ACalls P W0 f args H R := by
  refine ⟨hc, fun φ W ys hI hv => ?_⟩
  have hlen := hv.length
  refine calls_of_wp hf hb (wp_mono (code_sound (n := args.length + (fn.ntmps - args.length)) hI.non c _ φ (env0 args) H _ W hd ⟨hI, fun t => ?_, Ext.refl _, rfl, ?_⟩ h) ?_)
  · simp only [env0]
    by_cases ht : t < args.length
    · obtain ⟨y, hy, hvy⟩ := hv.get t args[t] (List.getElem?_eq_getElem ht)
      rw [List.getD_eq_getElem?_getD, List.getElem?_eq_getElem ht]
      have : (ys.toArray ++ Array.replicate (fn.ntmps - ys.toArray.size) undef).getD t undef = y := by
        rw [Array.getD_eq_getD_getElem?, Array.getElem?_append_left (by simp; omega)]
        simp [hy]
      rw [this]
      exact hvy
    · rw [List.getD_eq_getElem?_getD, List.getElem?_eq_none (by omega)]
      have : (ys.toArray ++ Array.replicate (fn.ntmps - ys.toArray.size) undef).getD t undef = undef := by
        rw [Array.getD_eq_getD_getElem?, Array.getElem?_append_right (by simp; omega)]
        by_cases h2 : t - ys.length < fn.ntmps - ys.length
        · simp [h2]
        · simp [h2]
      rw [this]
      exact .v _
  · simp [hlen]
  · intro x a W' hcq
    obtain ⟨ax, e, H', φ', hx, hr, hq⟩ := hcq
    have fin : (match resAll P W0 fn.results.toList e H' with
        | some [v] => ∃ H1, FgtH H.nxt H' H1 ∧ FgtV H' H1 v ∧ R v H1
        | some l => ∃ H1, FgtH H.nxt H' H1 ∧ FgtV H' H1 (.tup l) ∧ R (.tup l) H1
        | none => False) → ∃ v, (results fn a.tmps).run P W' = .ok v W' ∧ ∃ (y : Value) (w : AV) (H1 : AH) (φ1 : Phi), Ending.returned v = .returned y ∧ VR φ1 w y ∧ Inv W0 φ1 H1 W' ∧ Ext φ φ1 ∧ R w H1 := by
      intro hm
      have hres : ∀ l, resAll P W0 fn.results.toList e H' = some l → ∃ ys : List Value, (results fn a.tmps).run P W' = .ok (if h : ys.toArray.size = 1 then ys.toArray[0] else .tuple ys.toArray) W' ∧ VRs φ' l ys := by
        intro l hl
        obtain ⟨ys, h1, h2⟩ := resAll_run hr.inv hr.er hl
        refine ⟨ys, ?_, h2⟩
        rw [results_eq, Array.mapM_eq_mapM_toList]
        simp only [Sem.run_bind, Sem.run_map, h1, Result.andThen_ok, Sem.run_pure]
      have fg : ∀ (w : AV) (y : Value), (∃ H1, FgtH H.nxt H' H1 ∧ FgtV H' H1 w ∧ R w H1) → VR φ' w y → ∃ (H1 : AH) (φ1 : Phi), VR φ1 w y ∧ Inv W0 φ1 H1 W' ∧ Ext φ φ1 ∧ R w H1 := by
        rintro w y ⟨H1, k2, k3, k4⟩ hv
        obtain ⟨φ1, m1, m2, m3⟩ := hr.inv.forget k2 hr.ext hI.non
        exact ⟨H1, φ1, m3 _ _ k3 hv, m1, m2, k4⟩
      split at hm
      · rename_i v hl
        obtain ⟨ys, h1, h2⟩ := hres _ hl
        cases h2 with
        | cons hv h2 =>
          cases h2
          obtain ⟨H1, φ1, m1, m2, m3, m4⟩ := fg _ _ hm hv
          exact ⟨_, h1, _, _, H1, φ1, rfl, m1, m2, m3, m4⟩
      · rename_i l hne hl
        obtain ⟨ys, h1, h2⟩ := hres _ hl
        have hl2 := h2.length
        have hn1 : ¬ ys.toArray.size = 1 := by
          intro h1
          simp only [List.size_toArray] at h1
          rw [← hl2] at h1
          match l, h1 with
          | [v], _ => exact hne v rfl
        rw [dif_neg hn1] at h1
        obtain ⟨H1, φ1, m1, m2, m3, m4⟩ := fg _ _ hm (.tup h2)
        exact ⟨_, h1, _, _, H1, φ1, rfl, m1, m2, m3, m4⟩
      · exact hm.elim
    cases ax with
    | normal => cases x <;> simp only [XM] at hx; exact ⟨hr.defers, fin hq⟩
    | ret => cases x <;> simp only [XM] at hx; exact ⟨hr.defers, fin hq⟩
    | exit id => exact hq.elim
end
end Go.Proofs.YtipfnhfcoolhaaaGreat.Aw
