/- What a step of a thread does to a world, in plain Lean. -/
import Derived.Test.YtipfnhfcoolhaaaGreatMA
namespace Go.Proofs.YtipfnhfcoolhaaaGreat.Aw
open Go
set_option linter.unusedVariables false
def cget (w : WorldD) (i : Nat) : Int := w.cells.getD i 0
def cset (w : WorldD) (i : Nat) (n : Int) : WorldD := { w with cells := w.cells.set i n }
def cadd (w : WorldD) (i : Nat) (n : Int) : WorldD := cset w i ((cget w i + n) % 281474976710656)
def pointE (w : WorldD) (t : Nat) (j : JobD) (code win : Int) : EvD := ⟨2, t, j.serial, w.now, j.op, code, win, 0, 0, []⟩
def pointD (w : WorldD) (t : Nat) (j : JobD) (code win : Int) : WorldD × JobD := ({ w with log := w.log ++ [pointE w t j code win] }, { j with code := code })
def endD (w : WorldD) (t : Nat) (j : JobD) (code : Int) : WorldD × JobD := ((pointD w t j code (-1)).1, { j with code := code, pc := 11 })
def probeTag (w : WorldD) (j : JobD) : Int := cget w (keyCell (probe j.op.key j.k)).toNat
def probeD (w : WorldD) (t : Nat) (j : JobD) : WorldD × JobD :=
  if probeTag w j = 0 then (if j.op.kind = 1 then (w, { j with pc := 1 }) else endD w t j 2)
  else if (untag (probeTag w j)).1 = j.op.key then
    (if j.op.kind = 2 then (w, { j with slot := probe j.op.key j.k, what := (untag (probeTag w j)).2, pc := 2 })
     else if (untag (probeTag w j)).2 = j.op.what then endD w t j 0 else endD w t j 4)
  else if j.k < 3 then (w, { j with k := j.k + 1 })
  else if j.op.kind = 1 then endD w t j 3 else endD w t j 2
def claimD (w : WorldD) (t : Nat) (j : JobD) : WorldD × JobD :=
  if probeTag w j = 0 then endD (cset w (keyCell (probe j.op.key j.k)).toNat (tagged j.op.key j.op.what)) t j 0 else (w, { j with pc := 0 })
def baseD (j : JobD) : Nat := (slotBase (j.e % 2) j.slot).toNat
def inD (j : JobD) : Nat := 1 + (j.e % 2).toNat
def dataD (w : WorldD) (t : Nat) (j : JobD) : WorldD × JobD :=
  if j.what = 1 then ((pointD (cadd w (baseD j + t % 2) j.op.val) t j 0 j.e).1, { j with code := 0, pc := 9 })
  else if j.what = 2 then ((pointD (cadd w (baseD j + 2) 1) t j 0 j.e).1, { j with code := 0, stamp := (cget w (baseD j + 2) + 1) % 281474976710656, pc := 6 })
  else if 3 ≤ cget w (baseD j + 4) then ((pointD (cadd w (baseD j + 4) 1) t j 5 j.e).1, { j with code := 5, pc := 9 })
  else ((pointD (cadd w (baseD j + 4) 1) t j 0 j.e).1, { j with code := 0, k := cget w (baseD j + 4), pc := 8 })
def writeD (w : WorldD) (t : Nat) (j : JobD) : WorldD × JobD :=
  if j.pc = 2 then (w, { j with e := cget w 0, pc := 3 })
  else if j.pc = 3 then (cadd w (inD j) 1, { j with pc := 4 })
  else if j.pc = 4 then (w, { j with pc := if cget w 0 = j.e then 5 else 10 })
  else if j.pc = 5 then dataD w t j
  else if j.pc = 6 then (w, { j with old := cget w (baseD j + 3), pc := if j.stamp < (unpackGauge (cget w (baseD j + 3))).1 then 9 else 7 })
  else if j.pc = 7 then (if cget w (baseD j + 3) = j.old then (cset w (baseD j + 3) (packGauge j.stamp j.op.val), { j with pc := 9 }) else (w, { j with pc := 6 }))
  else if j.pc = 8 then (cset w (baseD j + 5 + j.k.toNat) (j.op.val + 1), { j with pc := 9 })
  else if j.pc = 9 then (cadd w (inD j) (-1), { j with pc := 11 })
  else (cadd w (inD j) (-1), { j with flips := IntKind.i64.wrap (j.flips + 1), pc := 2 })
def drainC (j : JobD) : Nat := 7 + (j.e % 2).toNat * 32 + j.k.toNat
def flushD (w : WorldD) (t : Nat) (j : JobD) : WorldD × JobD :=
  if j.pc = 12 then ((pointD (cadd w 0 1) t j 0 (cget w 0)).1, { j with e := cget w 0, code := 0, pc := 13 })
  else if j.pc = 13 then (if cget w (inD j) = 0 then (w, { j with k := 0, pc := 14 }) else (w, j))
  else if j.pc = 14 then
    (if j.k = 3 then (w, { j with keys := j.keys ++ [cget w (3 + j.k.toNat)], k := 0, pc := 15 }) else (w, { j with keys := j.keys ++ [cget w (3 + j.k.toNat)], k := j.k + 1 }))
  else (cset w (drainC j) 0, { j with raw := j.raw ++ [cget w (drainC j)], k := j.k + 1, pc := if j.k = 31 then 11 else j.pc })
def rowsTo (keys raw : List Int) : Nat → List RowD
  | 0 => []
  | s + 1 => if (s + 1) * 8 ≤ raw.length then addRow (rowsTo keys raw s) (rowFrom (keys.getD s 0) ((raw.drop (s * 8)).take 8)) else rowsTo keys raw s
def rowsD (j : JobD) : List RowD := rowsTo j.keys j.raw j.keys.length
def tellE (w : WorldD) (t : Nat) (j : JobD) : EvD := ⟨3, t, j.serial, w.now, j.op, j.code, -1, j.steps, j.flips, rowsD j⟩
def tellD (w : WorldD) (t : Nat) (j : JobD) : WorldD × JobD := ({ w with log := w.log ++ [tellE w t j] }, job0)
def moveD (w : WorldD) (t : Nat) (j : JobD) : WorldD × JobD :=
  if j.pc = 11 then tellD w t j else if j.pc = 0 then probeD w t j else if j.pc = 1 then claimD w t j else if j.pc < 12 then writeD w t j else flushD w t j
def opsAt (w : WorldD) (t : Nat) : List OpD := (w.todo.getD t ⟨[]⟩).ops
def startJ (serial : Int) (o : OpD) : JobD := { job0 with busy := true, op := o, serial := serial, pc := if o.kind = 3 then 12 else 0 }
def startD (w : WorldD) (t : Nat) : WorldD :=
  { w with serial := w.serial + 1, jobs := w.jobs.set t (startJ (w.serial + 1) ((opsAt w t).headD op0)), todo := w.todo.set t ⟨(opsAt w t).tail⟩,
           log := w.log ++ [⟨1, t, w.serial + 1, w.now, (opsAt w t).headD op0, 0, -1, 0, 0, []⟩] }
def jobOf (w : WorldD) (t : Nat) : JobD := w.jobs.getD t job0
/-- One step of a thread, in a world that is right. -/
def stepD (w : WorldD) (t : Nat) : WorldD :=
  if w.now = 1000000000 then w
  else if (jobOf w t).busy = true then
    let r := moveD { w with now := w.now + 1 } t { jobOf w t with steps := IntKind.i64.wrap ((jobOf w t).steps + 1) }
    { r.1 with jobs := r.1.jobs.set t r.2 }
  else if opsAt w t = [] ∨ w.serial = 1000000 then w
  else startD { w with now := w.now + 1 } t
def stepS (w : WorldD) (t : Int) : WorldD := if worldOk w = true ∧ 0 ≤ t ∧ t ≤ 3 then stepD w t.toNat else w
def worldNew (l : List QueueD) : WorldD := if todoOk l = true then ⟨List.replicate 71 0, List.replicate 4 job0, l, [], 0, 0⟩ else ⟨[], [], [], [], 0, 0⟩
def playTo (w : WorldD) : List Int → WorldD
  | [] => w
  | t :: ts => playTo (stepS w t) ts
def playD (x : ScriptD) : WorldD := playTo (worldNew x.todo) (x.picks.take 500)
def roundsTo (w : WorldD) : Nat → WorldD
  | 0 => w
  | k + 1 => stepD (roundsTo w k) (k % 4)
def roundsD (w : WorldD) (n : Int) : WorldD := if worldOk w = true then roundsTo w (min n.toNat 4000) else w
/-- Round and round, from the k-th step on, f steps at most, until nobody has work. -/
def finishTo (w : WorldD) (k : Nat) : Nat → WorldD
  | 0 => w
  | f + 1 => if idle w = true then w else finishTo (stepD w (k % 4)) (k + 1) f
def finishD (w : WorldD) : WorldD := if worldOk w = true then finishTo w 0 4000 else w
end Go.Proofs.YtipfnhfcoolhaaaGreat.Aw
