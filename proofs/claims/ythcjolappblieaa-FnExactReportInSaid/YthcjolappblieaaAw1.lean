/- The calculus 'Aw', part 1: abstract values, abstract memory, how they stand to the machine's, and the predicate transformer over the program's code. -/
import Derived.Below
import Derived.WalkKit
import Derived.Laws.AppendOwn
import Derived.Laws.Rows
import Derived.Laws.BytesArg
namespace Go.Proofs.Ythcjolappblieaa.Aw
open Go Go.RowKit
set_option linter.unusedVariables false

/-! ### Abstract values -/
inductive AV where
  | v (x : Value)
  | ptr (b o : Nat)
  | sl (b o n : Nat)
  | slc (b o n c : Nat)
  | sl0
  | agg (l : List AV)
  | tup (l : List AV)
  | fn (f : FuncId) (caps : List AV)
  | dead

/-- Where an abstract block lies: the machine's block, the first cell, an element's cells, how many cells there are from there on. -/
structure Pl where
  g : Nat
  base : Nat
  esz : Nat
  lim : Nat
abbrev Phi := Nat → Option Pl

mutual
inductive VR (φ : Phi) : AV → Value → Prop
  | v (x : Value) : VR φ (.v x) x
  | ptr {b o : Nat} {p : Pl} : φ b = some p → VR φ (.ptr b o) (.pointer (some ⟨p.g, p.base + o, none⟩))
  | sl {b o n c : Nat} {ad : Addr} {p : Pl} : φ b = some p → n ≤ c → (c = 0 ∨ (ad = ⟨p.g, p.base + o, none⟩ ∧ o + c * p.esz ≤ p.lim)) → VR φ (.sl b o n) (.slice (some ad) n c)
  | slc {b o n c : Nat} {ad : Addr} {p : Pl} : φ b = some p → n ≤ c → (c = 0 ∨ (ad = ⟨p.g, p.base + o, none⟩ ∧ o + c * p.esz ≤ p.lim)) → VR φ (.slc b o n c) (.slice (some ad) n c)
  | sl0 (a : Option Addr) : VR φ .sl0 (.slice a 0 0)
  | agg {l : List AV} {ys : List Value} : VRs φ l ys → VR φ (.agg l) (.agg ys.toArray)
  | tup {l : List AV} {ys : List Value} : VRs φ l ys → VR φ (.tup l) (.tuple ys.toArray)
  | fn {f : FuncId} {caps : List AV} {ys : List Value} : VRs φ caps ys → VR φ (.fn f caps) (.func (.func f) #[] ys.toArray)
  | dead (y : Value) : VR φ .dead y
inductive VRs (φ : Phi) : List AV → List Value → Prop
  | nil : VRs φ [] []
  | cons {a : AV} {y : Value} {l : List AV} {ys : List Value} : VR φ a y → VRs φ l ys → VRs φ (a :: l) (y :: ys)
end

def Ext (φ φ' : Phi) : Prop := ∀ b p, φ b = some p → φ' b = some p
theorem Ext.refl (φ : Phi) : Ext φ φ := fun _ _ h => h
theorem Ext.trans {a b c : Phi} (h : Ext a b) (k : Ext b c) : Ext a c := fun x p hp => k x p (h x p hp)

mutual
theorem VR.ext {φ φ' : Phi} (he : Ext φ φ') : {a : AV} → {y : Value} → VR φ a y → VR φ' a y
  | _, _, .v x => .v x
  | _, _, .ptr h => .ptr (he _ _ h)
  | _, _, .sl h1 h2 h3 => .sl (he _ _ h1) h2 h3
  | _, _, .slc h1 h2 h3 => .slc (he _ _ h1) h2 h3
  | _, _, .sl0 a => .sl0 a
  | _, _, .agg h => .agg (VRs.ext he h)
  | _, _, .tup h => .tup (VRs.ext he h)
  | _, _, .fn h => .fn (VRs.ext he h)
  | _, _, .dead y => .dead y
theorem VRs.ext {φ φ' : Phi} (he : Ext φ φ') : {l : List AV} → {ys : List Value} → VRs φ l ys → VRs φ' l ys
  | _, _, .nil => .nil
  | _, _, .cons h k => .cons (VR.ext he h) (VRs.ext he k)
end

theorem VRs.length {φ : Phi} : {l : List AV} → {ys : List Value} → VRs φ l ys → l.length = ys.length
  | _, _, .nil => rfl
  | _, _, .cons _ k => by simp [VRs.length k]
theorem VRs.get {φ : Phi} : {l : List AV} → {ys : List Value} → VRs φ l ys → ∀ (i : Nat) (a : AV), l[i]? = some a → ∃ y, ys[i]? = some y ∧ VR φ a y
  | _, _, .nil, i, a, h => by simp at h
  | _, _, .cons (a := b) (y := y) h1 k, 0, a, h => ⟨y, by simp, by simp at h; exact h ▸ h1⟩
  | _, _, .cons h1 k, i + 1, a, h => by simpa using VRs.get k i a (by simpa using h)
theorem VRs.mk {φ : Phi} : (l : List AV) → (ys : List Value) → l.length = ys.length → (∀ (i : Nat) (a : AV), l[i]? = some a → ∃ y, ys[i]? = some y ∧ VR φ a y) → VRs φ l ys
  | [], [], _, _ => .nil
  | a :: l, y :: ys, hl, h => by
    refine .cons ?_ (VRs.mk l ys (by simpa using hl) fun i b hb => ?_)
    · obtain ⟨z, hz, hv⟩ := h 0 a rfl
      simp at hz
      exact hz ▸ hv
    · simpa using h (i + 1) b (by simpa using hb)
  | [], _ :: _, hl, _ => by simp at hl
  | _ :: _, [], hl, _ => by simp at hl
theorem VRs.append {φ : Phi} : {l l' : List AV} → {ys ys' : List Value} → VRs φ l ys → VRs φ l' ys' → VRs φ (l ++ l') (ys ++ ys')
  | _, _, _, _, .nil, k => k
  | _, _, _, _, .cons h1 h2, k => .cons h1 (VRs.append h2 k)
theorem VRs.take {φ : Phi} : {l : List AV} → {ys : List Value} → VRs φ l ys → ∀ n, VRs φ (l.take n) (ys.take n)
  | _, _, .nil, n => by simp; exact .nil
  | _, _, .cons h k, 0 => by simp; exact .nil
  | _, _, .cons h k, n + 1 => by simp only [List.take_succ_cons]; exact .cons h (VRs.take k n)
theorem VRs.drop {φ : Phi} : {l : List AV} → {ys : List Value} → VRs φ l ys → ∀ n, VRs φ (l.drop n) (ys.drop n)
  | _, _, .nil, n => by simp; exact .nil
  | _, _, .cons h k, 0 => .cons h k
  | _, _, .cons h k, n + 1 => by simp only [List.drop_succ_cons]; exact VRs.drop k n
theorem VRs.vs {φ : Phi} : (xs : List Value) → VRs φ (xs.map AV.v) xs
  | [] => .nil
  | x :: xs => .cons (.v x) (VRs.vs xs)
theorem VRs.reverse_eq {φ : Phi} {xs ys : List Value} (h : VRs φ (xs.map AV.v) ys) : ys = xs := by
  induction xs generalizing ys with
  | nil => cases h; rfl
  | cons x xs ih =>
    cases h with
    | cons h k => cases h; rw [ih k]

/-! ### Abstract memory -/
structure Blk where
  cells : List AV
  esz : Nat
structure AH where
  blk : Nat → Option Blk
  nxt : Nat
def AH.new (H : AH) (cells : List AV) (esz : Nat) : AH := ⟨fun b => if b = H.nxt then some ⟨cells, esz⟩ else H.blk b, H.nxt + 1⟩
def AH.set (H : AH) (b : Nat) (B : Blk) : AH := ⟨fun b' => if b' = b then some B else H.blk b', H.nxt⟩
def AH.kill (H : AH) (b : Nat) : AH := ⟨fun b' => if b' = b then none else H.blk b', H.nxt⟩
/-- All of H's blocks are H''s, as they are. -/
def Sub (H H' : AH) : Prop := H.nxt ≤ H'.nxt ∧ ∀ b B, H.blk b = some B → H'.blk b = some B
def AH.wf (H : AH) : Prop := ∀ b, H.nxt ≤ b → H.blk b = none

/-- Memory: what was there when the law was called (W0) is as it was; each abstract block lies where φ says. -/
structure Inv (W0 : World) (φ : Phi) (H : AH) (W : World) : Prop where
  below : Below W0.heap.size W0 W
  blks : ∀ b B, H.blk b = some B → ∃ p, φ b = some p ∧ W0.heap.size ≤ p.g ∧ B.esz = p.esz ∧ B.cells.length ≤ p.lim ∧
    ∃ C e, W.heap[p.g]? = some (.cells C e (0, 0)) ∧ p.base + p.lim ≤ C.size ∧ ∀ (j : Nat) (v : AV), B.cells[j]? = some v → ∃ y, C[p.base + j]? = some y ∧ VR φ v y
  inj : ∀ b b' p p', (H.blk b).isSome = true → (H.blk b').isSome = true → φ b = some p → φ b' = some p' → p.g = p'.g → b = b'
  wf : H.wf
  non : ∀ b, H.nxt ≤ b → φ b = .none

abbrev Env := Nat → AV
def upd (e : Env) (t : Nat) (v : AV) : Env := fun u => if u = t then v else e u
def ER (φ : Phi) (e : Env) (tmps : Array Value) : Prop := ∀ t, VR φ (e t) (tmps.getD t undef)

def ev (e : Env) : Operand → AV
  | .tmp t => e t
  | .const v => .v v
  | .global _ => .dead
  | .func f => .fn f []

/-! ### Types -/
/-- Of a type: is a value of it an aggregate; its cells; its bytes; its zero value's cells. -/
structure TyI where
  agg : Bool
  size : Nat
  bytes : Nat
  zero : List Value
def isAggD : TypeDesc → Bool
  | .struct _ => true
  | .array _ _ => true
  | _ => false
def tyi (P : Program) (t : TypeId) : Option TyI :=
  match P.underlying t, P.info? t with
  | some d, some i => (i.zero).map fun z => ⟨isAggD d, i.size, i.bytes, z.cells.toList⟩
  | _, _ => none
/-- The element's type of a slice's. -/
def elt (P : Program) (t : TypeId) : Option TypeId := match P.underlying t with | some (.slice e) => some e | _ => none
/-- A field's place and type. -/
def fldt (P : Program) (t : TypeId) (f : Nat) : Option (Nat × TypeId) := match P.underlying t with | some (.struct fs) => (fs[f]?).map fun x => (x.offset, x.type) | _ => none
/-- The fields' places and sizes. -/
def places (P : Program) (t : TypeId) : Option (List (Nat × Nat)) := match P.underlying t with | some (.struct fs) => fs.toList.mapM fun f => (P.info? f.type).map fun i => (f.offset, i.size) | _ => none
/-- An array's length and element's type. -/
def arrt (P : Program) (t : TypeId) : Option (Nat × TypeId) := match P.underlying t with | some (.array n e) => some (n, e) | _ => none
def isStr (P : Program) (t : TypeId) : Bool := match P.underlying t with | some .string => true | _ => false
def intKd (P : Program) (t : TypeId) : Option IntKind := match P.underlying t with | some (.int k) => some k | _ => none
def isInt (P : Program) (t : TypeId) : Bool := match P.underlying t with | some (.int _) => true | _ => false

def mkv (agg : Bool) (cs : List AV) : AV := if agg then .agg cs else cs.headD .dead
/-- A value's cells. -/
def cellsA : AV → Option (List AV)
  | .agg l => some l
  | .v x => some (x.cells.toList.map .v)
  | .ptr b o => some [.ptr b o]
  | .sl b o n => some [.sl b o n]
  | .slc b o n c => some [.slc b o n c]
  | .sl0 => some [.sl0]
  | .fn f c => some [.fn f c]
  | .tup _ => none
  | .dead => none
def leafV : Value → Bool
  | .agg _ => false
  | .tuple _ => false
  | _ => true
def leafA : AV → Bool
  | .v x => leafV x
  | .ptr _ _ => true
  | .sl _ _ _ => true
  | .slc _ _ _ _ => true
  | .sl0 => true
  | .fn _ _ => true
  | _ => false
def wr (l : List AV) (o : Nat) (cs : List AV) : List AV := l.take o ++ cs ++ l.drop (o + cs.length)
def rdOld (W0 : World) (a : Addr) (n : Nat) : Option (List Value) := (List.range n).mapM fun i => W0.cell? (a.add i)

/-! ### Operators on plain values -/
def abin (op : BinOp) : Value → Value → Option Value
  | .int k a, .int k' b =>
    match op with
    | .shl => if 0 ≤ b then some (.int k (k.wrap (a * 2 ^ (min b.toNat k.bits)))) else none
    | .shr => if 0 ≤ b then some (.int k (a.fdiv (2 ^ (min b.toNat k.bits)))) else none
    | .add => if k = k' then some (.int k (k.wrap (a + b))) else none
    | .sub => if k = k' then some (.int k (k.wrap (a - b))) else none
    | .mul => if k = k' then some (.int k (k.wrap (a * b))) else none
    | .quo => if k = k' ∧ b ≠ 0 then some (.int k (k.wrap (a.tdiv b))) else none
    | .rem => if k = k' ∧ b ≠ 0 then some (.int k (a.tmod b)) else none
    | .and => if k = k' then some (.int k (bits .and k a b)) else none
    | .or => if k = k' then some (.int k (bits .or k a b)) else none
    | .xor => if k = k' then some (.int k (bits .xor k a b)) else none
    | .andNot => if k = k' then some (.int k (bits .andNot k a b)) else none
    | .eql => if k = k' then some (.bool (a == b)) else none
    | .neq => if k = k' then some (.bool (a != b)) else none
    | .lss => if k = k' then some (.bool (decide (a < b))) else none
    | .leq => if k = k' then some (.bool (decide (a ≤ b))) else none
    | .gtr => if k = k' then some (.bool (decide (a > b))) else none
    | .geq => if k = k' then some (.bool (decide (a ≥ b))) else none
  | .string a, .string b =>
    match op with
    | .add => if a.size + b.size ≤ 9223372036854775807 then some (.string (a ++ b)) else none
    | .eql => some (.bool (a.toList == b.toList))
    | .neq => some (.bool (!(a.toList == b.toList)))
    | .lss => some (.bool (Op.bytesLess a.toList b.toList))
    | .leq => some (.bool (Op.bytesLess a.toList b.toList || a.toList == b.toList))
    | .gtr => some (.bool (!(Op.bytesLess a.toList b.toList || a.toList == b.toList)))
    | .geq => some (.bool (!(Op.bytesLess a.toList b.toList)))
    | _ => none
  | _, _ => none
def aun (op : UnOp) : Value → Option Value
  | .int k n => match op with | .neg => some (.int k (k.wrap (0 - n))) | _ => none
  | .bool b => match op with | .not => some (.bool !b) | _ => none
  | _ => none
/-- '==' at a type whose values are bools, or structs of plain cells: a fact of the program's, laid where it is used. -/
def EqAt (P : Program) (t : TypeId) (xs ys : List Value) (r : Bool) : Prop :=
  (∀ W : World, (eqGuard .eql t (.tmp 0) (.tmp 0) (.agg xs.toArray) (.agg ys.toArray)).run P W = .ok () W) ∧ ∀ W : World, (Op.equal t (.agg xs.toArray) (.agg ys.toArray)).run P W = .ok r W

def rdCells (W0 : World) (H : AH) (n : Nat) : AV → Option (List AV)
  | .ptr b o => (H.blk b).bind fun B => if o + n ≤ B.cells.length then some ((B.cells.drop o).take n) else none
  | .v (.pointer (some a)) => (rdOld W0 a n).map (·.map .v)
  | _ => none
/-- The first n elements of a slice, as cells; s: an element's cells. -/
def slCells (W0 : World) (H : AH) (s n : Nat) : AV → Option (List AV)
  | .sl b o m => if n ≤ m then (H.blk b).bind fun B => if B.esz = s ∧ o + n * s ≤ B.cells.length then some ((B.cells.drop o).take (n * s)) else none else none
  | .slc b o m _ => if n ≤ m then (H.blk b).bind fun B => if B.esz = s ∧ o + n * s ≤ B.cells.length then some ((B.cells.drop o).take (n * s)) else none else none
  | .sl0 => if n = 0 then some [] else none
  | .v (.slice (some a) m c) => if n ≤ m ∧ m ≤ c then (rdOld W0 a (n * s)).map (·.map .v) else none
  | .v (.slice none _ _) => if n = 0 then some [] else none
  | _ => none
def slLen : AV → Option Nat
  | .sl _ _ n => some n
  | .sl0 => some 0
  | .v (.slice _ n _) => some n
  | _ => none
/-- The same, of a slice whose capacity is told too. -/
def lenA : AV → Option Nat
  | .slc _ _ n _ => some n
  | x => slLen x
/-- The block, the first cell and the length of a slice of ours. -/
def slBlk : AV → Option (Nat × Nat × Nat)
  | .sl b o n => some (b, o, n)
  | .slc b o n _ => some (b, o, n)
  | _ => none
def fillA (pl : List (Nat × Nat)) : List AV → List (Nat × AV) → Option (List AV)
  | cs, [] => some cs
  | cs, (i, x) :: rest =>
    match pl[i]?, cellsA x with
    | some (off, size), some xs => if xs.length = size ∧ off + size ≤ cs.length then fillA pl (wr cs off xs) rest else none
    | _, _ => none
def fillS (s : Nat) : List AV → List (Nat × AV) → Option (List AV)
  | cs, [] => some cs
  | cs, (i, x) :: rest =>
    match cellsA x with
    | some xs => if xs.length = s ∧ i * s + s ≤ cs.length then fillS s (wr cs (i * s) xs) rest else none
    | _ => none
/-- n zero values. -/
def zerosA (z : List Value) (n : Nat) : List AV := (List.replicate n (z.map AV.v)).flatten
def intsOf : List AV → Option (List Int)
  | [] => some []
  | .v (.int .u8 n) :: l => (intsOf l).map (n :: ·)
  | _ :: _ => none

def callable (P : Program) (f : FuncId) : Bool := match P.funcs[f]? with | some fn => fn.name != "runtime.NumGoroutine" && fn.body.isSome | none => false
/-- A call: from whatever memory that is as H says it returns, and what it returns and leaves meets R. -/
def ACalls (P : Program) (W0 : World) (f : FuncId) (args : List AV) (H : AH) (R : AV → AH → Prop) : Prop :=
  callable P f = true ∧ ∀ (φ : Phi) (W : World) (ys : List Value), Inv W0 φ H W → VRs φ args ys →
    Calls P f ys.toArray W fun e W' => ∃ (y : Value) (v : AV) (H' : AH) (φ' : Phi), e = .returned y ∧ VR φ' v y ∧ Inv W0 φ' H' W' ∧ Ext φ φ' ∧ R v H'

/-- A call of a function without a body, that hands a value back at once. -/
def AExt (P : Program) (W0 : World) (f : FuncId) (args : List AV) (H : AH) (R : AV → AH → Prop) : Prop :=
  ∀ (φ : Phi) (W : World) (ys : List Value), Inv W0 φ H W → VRs φ args ys →
    ∃ (y : Value) (W' : World), (callFunc f ys.toArray).run P W = .ok (.value y) W' ∧ ∃ (v : AV) (H' : AH) (φ' : Phi), VR φ' v y ∧ Inv W0 φ' H' W' ∧ Ext φ φ' ∧ R v H'
def ACallG (P : Program) (W0 : World) (f : FuncId) (args : List AV) (H : AH) (R : AV → AH → Prop) : Prop := ACalls P W0 f args H R ∨ AExt P W0 f args H R

/-! ### One operation -/
def astore (H : AH) (n : Nat) (b o : Nat) (x : AV) (K : AV → AH → Prop) : Prop :=
  match H.blk b, cellsA x with
  | some B, some cs => cs.length = n ∧ o + n ≤ B.cells.length ∧ cs.all leafA = true ∧ K .dead (H.set b ⟨wr B.cells o cs, B.esz⟩)
  | _, _ => False
def aappend (P : Program) (W0 : World) (H : AH) (e : TypeId) (dst src : AV) (K : AV → AH → Prop) : Prop :=
  match tyi P e, lenA src with
  | some i, some m =>
    match slCells W0 H i.size m src with
    | some new => 0 < i.size ∧ 0 < i.bytes ∧ i.zero.length = i.size ∧ new.all leafA = true ∧
      match dst with
      | .v (.slice _ 0 0) => m * i.bytes ≤ 140737488355328 ∧ if m = 0 then K dst H else K (.sl H.nxt 0 m) (H.new new i.size)
      | .sl0 => m * i.bytes ≤ 140737488355328 ∧ if m = 0 then K .sl0 H else K (.sl H.nxt 0 m) (H.new new i.size)
      | .slc b o n c =>
        match H.blk b with
        | some B => B.esz = i.size ∧ o + c * i.size ≤ B.cells.length ∧ n ≤ c ∧ (n + m) * i.bytes ≤ 140737488355328 ∧
          if n + m ≤ c then K (.slc b o (n + m) c) (H.set b ⟨wr B.cells (o + n * i.size) new, B.esz⟩)
          else K (.sl H.nxt 0 (n + m)) (H.new ((B.cells.drop o).take (n * i.size) ++ new) i.size)
        | none => False
      | .sl b o n =>
        match H.blk b with
        | some B => B.esz = i.size ∧ o + n * i.size ≤ B.cells.length ∧ (n + m) * i.bytes ≤ 140737488355328 ∧
          K (.sl H.nxt 0 (n + m)) ((H.kill b).new ((B.cells.drop o).take (n * i.size) ++ new) i.size)
        | none => False
      | _ => False
    | none => False
  | _, _ => False
/-- Zero values appended, behind a slice that has no room for them. -/
def aappendz (P : Program) (W0 : World) (H : AH) (e : TypeId) (dst : AV) (m : Nat) (K : AV → AH → Prop) : Prop :=
  match tyi P e, dst with
  | some i, .slc b o n c =>
    match H.blk b with
    | some B => 0 < i.size ∧ 0 < i.bytes ∧ i.zero.length = i.size ∧ B.esz = i.size ∧ o + c * i.size ≤ B.cells.length ∧ n ≤ c ∧ (n + m) * i.bytes ≤ 140737488355328 ∧ c < n + m ∧
      K (.sl H.nxt 0 (n + m)) (H.new ((B.cells.drop o).take (n * i.size) ++ zerosA i.zero m) i.size)
    | none => False
  | _, _ => False
def boundA (d : Nat) : Option AV → Option Int
  | none => some d
  | some (.v (.int _ i)) => some i
  | _ => none
def aslice (W0 : World) (H : AH) (s : Nat) (x : AV) (lo hi : Option AV) (K : AV → AH → Prop) : Prop :=
  match x with
  | .v (.string t) =>
    match boundA 0 lo, boundA t.size hi with
    | some l, some h => 0 ≤ l ∧ l ≤ h ∧ h ≤ t.size ∧ K (.v (.string (t.extract l.toNat h.toNat))) H
    | _, _ => False
  | .sl b o n =>
    match H.blk b with
    | some B =>
      match boundA 0 lo, boundA n hi with
      | some l, some h => B.esz = s ∧ 0 ≤ l ∧ l ≤ h ∧ h ≤ n ∧ K (.sl b (o + l.toNat * s) (h.toNat - l.toNat)) H
      | _, _ => False
    | none => False
  | .slc b o n c =>
    match H.blk b with
    | some B =>
      match boundA 0 lo, boundA n hi with
      | some l, some h => B.esz = s ∧ 0 ≤ l ∧ l ≤ h ∧ h ≤ c ∧ K (.slc b (o + l.toNat * s) (h.toNat - l.toNat) (c - l.toNat)) H
      | _, _ => False
    | none => False
  | .sl0 =>
    match boundA 0 lo, boundA 0 hi with
    | some l, some h => l = 0 ∧ h = 0 ∧ K .sl0 H
    | _, _ => False
  | .v (.slice a n c) =>
    match boundA 0 lo, boundA n hi with
    | some l, some h => 0 ≤ l ∧ l ≤ h ∧ h ≤ n ∧ n ≤ c ∧ K (.v (.slice (if c = l.toNat then a else a.map (·.add (l.toNat * s))) (h.toNat - l.toNat) (c - l.toNat))) H
    | _, _ => False
  | _ => False
/-- A slice with a limit. -/
def aslice3 (W0 : World) (H : AH) (s : Nat) (x : AV) (lo hi mx : Option AV) (K : AV → AH → Prop) : Prop :=
  match boundA 0 lo, hi.bind (fun h => boundA 0 (some h)), mx.bind (fun h => boundA 0 (some h)) with
  | some l, some h, some m =>
    match x with
    | .slc b o n c =>
      match H.blk b with
      | some B => B.esz = s ∧ 0 ≤ l ∧ l ≤ h ∧ h ≤ m ∧ m ≤ c ∧ K (.slc b (o + l.toNat * s) (h.toNat - l.toNat) (m.toNat - l.toNat)) H
      | none => False
    | x => (slLen x).isSome = true ∧ l = 0 ∧ h = 0 ∧ m = 0 ∧ K .sl0 H
  | _, _, _ => False
def abuiltin (P : Program) (W0 : World) (b : Builtin) (ts : List TypeId) (xs : List AV) (H : AH) (K : AV → AH → Prop) : Prop :=
  match b, ts, xs with
  | .len, [t], [.v (.string s)] => isStr P t = true ∧ K (.v (.int .i64 s.size)) H
  | .len, [t], [x] => (elt P t).isSome = true ∧ match lenA x with | some n => K (.v (.int .i64 n)) H | none => False
  | .append, [t, t'], [dst, src] =>
    match elt P t, elt P t' with
    | some e, some _ => aappend P W0 H e dst src K
    | some e, none => match isInt P t', src with
      | true, .v (.int .i64 m) => 0 ≤ m ∧ aappendz P W0 H e dst m.toNat K
      | _, _ => False
    | _, _ => False
  | .cap, [t], [.slc b o n c] => (elt P t).isSome = true ∧ K (.v (.int .i64 c)) H
  | .copy, [t, t'], [dst, src] =>
    match (elt P t).bind (tyi P), slBlk dst, lenA src with
    | some i, some (b, o, n), some m =>
      match H.blk b, slCells W0 H i.size (min m n) src with
      | some B, some new => B.esz = i.size ∧ o + n * i.size ≤ B.cells.length ∧ new.all leafA = true ∧ K (.v (.int .i64 (min m n : Nat))) (H.set b ⟨wr B.cells o new, B.esz⟩)
      | _, _ => False
    | _, _, _ => False
  | .min, _, [.v (.int k a), .v (.int _ b)] => K (.v (.int k (if b < a then b else a))) H
  | .max, _, [.v (.int k a), .v (.int _ b)] => K (.v (.int k (if b > a then b else a))) H
  | .clear, [t], [x] =>
    match (elt P t).bind (tyi P), slBlk x with
    | some i, some (b, o, n) => match H.blk b with
      | some B => B.esz = i.size ∧ i.zero.length = i.size ∧ i.zero.all leafV = true ∧ o + n * i.size ≤ B.cells.length ∧ K .dead (H.set b ⟨wr B.cells o (zerosA i.zero n), B.esz⟩)
      | none => False
    | _, _ => False
  | _, _, _ => False
def aop (P : Program) (W0 : World) (op : Op) (e : Env) (H : AH) (K : AV → AH → Prop) : Prop :=
  match op with
  | .move x => K (ev e x) H
  | .assign x => K (ev e x) H
  | .pick c a b => match ev e c with | .v (.bool t) => K (if t = true then ev e a else ev e b) H | _ => False
  | .alloc t => match tyi P t with | some i => K (.ptr H.nxt 0) (H.new (i.zero.map .v) i.zero.length) | none => False
  | .box _ x => match cellsA (ev e x) with | some cs => K (.ptr H.nxt 0) (H.new cs cs.length) | none => False
  | .build t parts => match tyi P t, places P t with
    | some i, some pl => match fillA pl (i.zero.map .v) (parts.toList.map fun p => (p.1, ev e p.2)) with | some cs => K (.agg cs) H | none => False
    | some i, none => match (arrt P t).bind fun p => tyi P p.2 with
      | some j => match fillS j.size (i.zero.map .v) (parts.toList.map fun p => (p.1, ev e p.2)) with | some cs => K (.agg cs) H | none => False
      | none => False
    | none, _ => False
  | .buildSlice t len parts => match (elt P t).bind (tyi P) with
    | some i => len * i.size ≤ 16777216 ∧ i.zero.length = i.size ∧
      match fillS i.size (zerosA i.zero len) (parts.toList.map fun p => (p.1, ev e p.2)) with | some cs => K (.sl H.nxt 0 len) (H.new cs i.size) | none => False
    | none => False
  | .load t a => match tyi P t with
    | some i => (i.agg = true ∨ i.size = 1) ∧ match rdCells W0 H i.size (ev e a) with | some cs => K (mkv i.agg cs) H | none => False
    | none => False
  | .store t a x => match tyi P t, ev e a with
    | some i, .ptr b o => astore H i.size b o (ev e x) K
    | _, _ => False
  | .nilCheck x => match ev e x with
    | .ptr b o => K (.ptr b o) H
    | .v (.pointer (some a)) => K (.v (.pointer (some a))) H
    | .fn f c => K (.fn f c) H
    | _ => False
  | .binOp op t x y _ => match ev e x, ev e y with
    | .v (.bool a), .v (.bool b) => match op, P.underlying t with
      | .eql, some .bool => K (.v (.bool (a == b))) H
      | .neq, some .bool => K (.v (.bool (!(a == b)))) H
      | _, _ => False
    | .v a, .v b => match abin op a b with
      | some r => K (.v r) H
      | none => match op, a, b with
        | .eql, .slice a' _ _, .slice none _ _ => (elt P t).isSome = true ∧ K (.v (.bool a'.isNone)) H
        | .neq, .slice a' _ _, .slice none _ _ => (elt P t).isSome = true ∧ K (.v (.bool a'.isSome)) H
        | _, _, _ => False
    | .sl b o n, .v (.slice none _ _) => match op with
      | .eql => (elt P t).isSome = true ∧ K (.v (.bool false)) H
      | .neq => (elt P t).isSome = true ∧ K (.v (.bool true)) H
      | _ => False
    | .agg l, .agg l' => match op with
      | .eql => ∃ xs ys r, l = xs.map .v ∧ l' = ys.map .v ∧ EqAt P t xs ys r ∧ K (.v (.bool r)) H
      | .neq => ∃ xs ys r, l = xs.map .v ∧ l' = ys.map .v ∧ EqAt P t xs ys r ∧ K (.v (.bool !r)) H
      | _ => False
    | _, _ => False
  | .unOp op _ x => match ev e x with
    | .v a => match aun op a with | some r => K (.v r) H | none => False
    | _ => False
  | .convert src dst x => match ev e x with
    | .v (.int k n) => match intKd P dst, (P.underlying src).isSome with | some k', true => K (.v (.int k' (k'.wrap n))) H | _, _ => False
    | .v (.string s) => if isStr P src && isStr P dst then K (.v (.string s)) H else False
    | .sl b o n => match elt P src, isStr P dst with
      | some e', true => intKd P e' = some .u8 ∧ match (slCells W0 H 1 n (.sl b o n)).bind intsOf with | some l => K (.v (.string (strOfNums l))) H | none => False
      | _, _ => False
    | .v (.slice none _ _) => match elt P src, isStr P dst with
      | some e', true => intKd P e' = some .u8 ∧ K (.v (.string .empty)) H
      | _, _ => False
    | _ => False
  | .makeFunc fn first caps => match fn with
    | .func f => first.size = 0 ∧ K (.fn f (caps.toList.map (ev e))) H
    | _ => False
  | .makeSlice t l c => match (elt P t).bind (tyi P), ev e l, ev e c with
    | some i, .v (.int .i64 n), .v (.int .i64 m) => m = n ∧ 0 ≤ n ∧ n * i.bytes ≤ 281474976710656 ∧ n ≤ 281474976710656 ∧ i.zero.length = i.size ∧ K (.sl H.nxt 0 n.toNat) (H.new (zerosA i.zero n.toNat) i.size)
    | _, _, _ => False
  | .slice t x lo hi mx => match mx, ev e x with
    | none, .v (.string s) => isStr P t = true ∧ aslice W0 H 1 (.v (.string s)) (lo.map (ev e)) (hi.map (ev e)) K
    | none, x => match (elt P t).bind (tyi P) with
      | some i => aslice W0 H i.size x (lo.map (ev e)) (hi.map (ev e)) K
      | none => False
    | some m, x => match (elt P t).bind (tyi P) with
      | some i => aslice3 W0 H i.size x (lo.map (ev e)) (hi.map (ev e)) (some (ev e m)) K
      | none => False
  | .fieldAddr t x f => match fldt P t f with
    | some (off, ft) => match tyi P ft, ev e x with
      | some i, .ptr b o => i.size ≠ 0 ∧ K (.ptr b (o + off)) H
      | some i, .v (.pointer (some a)) => i.size ≠ 0 ∧ K (.v (.pointer (some (a.add off)))) H
      | _, _ => False
    | none => False
  | .field t x f => match fldt P t f with
    | some (off, ft) => match tyi P ft, ev e x with
      | some i, .agg l => off + i.size ≤ l.length ∧ (i.agg = true ∨ i.size = 1) ∧ K (mkv i.agg ((l.drop off).take i.size)) H
      | _, _ => False
    | none => False
  | .indexAddr t x ix => match arrt P t with
    | some (n, el) => match tyi P el, ev e x, ev e ix with
      | some i, .ptr b o, .v (.int _ j) => 0 ≤ j ∧ j < n ∧ K (.ptr b (o + j.toNat * i.size)) H
      | some i, .v (.pointer (some a)), .v (.int _ j) => 0 ≤ j ∧ j < n ∧ K (.v (.pointer (some (a.add (j.toNat * i.size))))) H
      | _, _, _ => False
    | none => match (elt P t).bind (tyi P), ev e x, ev e ix with
    | some i, .sl b o n, .v (.int _ j) => 0 ≤ j ∧ j < n ∧ (match H.blk b with | some B => B.esz = i.size | none => False) ∧ K (.ptr b (o + j.toNat * i.size)) H
    | some i, .slc b o n _, .v (.int _ j) => 0 ≤ j ∧ j < n ∧ (match H.blk b with | some B => B.esz = i.size | none => False) ∧ K (.ptr b (o + j.toNat * i.size)) H
    | some i, .v (.slice (some a) n _), .v (.int _ j) => 0 ≤ j ∧ j < n ∧ K (.v (.pointer (some (a.add (j.toNat * i.size))))) H
    | _, _, _ => False
  | .index t x ix => match ev e x, ev e ix with
    | .v (.string s), .v (.int _ j) => isStr P t = true ∧ 0 ≤ j ∧ (∃ b : UInt8, s[j.toNat]? = some b ∧ K (.v (.int .u8 b.toNat)) H)
    | .agg l, .v (.int _ j) => match P.underlying t with
      | some (.array n el) => match tyi P el with
        | some i => 0 ≤ j ∧ j < n ∧ n * i.size ≤ l.length ∧ (i.agg = true ∨ i.size = 1) ∧ K (mkv i.agg ((l.drop (j.toNat * i.size)).take i.size)) H
        | none => False
      | _ => False
    | _, _ => False
  | .extract x i => match ev e x with
    | .tup l => match l[i]? with | some a => K a H | none => False
    | _ => False
  | .call c => match c.callee with
    | .builtin b => abuiltin P W0 b c.argTypes.toList (c.args.toList.map (ev e)) H K
    | .value f => match ev e f with
      | .fn g caps => ACallG P W0 g (c.args.toList.map (ev e) ++ caps) H K
      | _ => False
    | .invoke _ _ => False
  | _ => False
end Go.Proofs.Ythcjolappblieaa.Aw
