/- Cells, rows and gauges, in plain Lean. -/
import Derived.Test.YthcjolappblieaaMb
import Derived.Test.YthcjolappblieaaMc
namespace Go.Proofs.Ythcjolappblieaa.Aw
open Go Go.RowKit
set_option linter.unusedVariables false
def wordP (n : Int) : Prop := 0 ≤ n ∧ n ≤ 281474976710655
instance (n : Int) : Decidable (wordP n) := by unfold wordP; infer_instance
def cellsOk (a : List Int) : Bool := (a.all fun n => decide (wordP n)) && decide ((a.length : Int) = 71)
def slotBase (b s : Int) : Int := if (0 ≤ b ∧ b ≤ 1) ∧ 0 ≤ s ∧ s ≤ 3 then 7 + b * 32 + s * 8 else -1
def keyCell (s : Int) : Int := if 0 ≤ s ∧ s ≤ 3 then 3 + s else -1
def packGauge (stamp v : Int) : Int := if (1 ≤ stamp ∧ stamp ≤ 65535) ∧ 0 ≤ v ∧ v ≤ 65535 then stamp * 65536 + v else 0
def unpackGauge (n : Int) : Int × Int := if 65536 ≤ n ∧ n ≤ 4294967295 then (n / 65536, n % 65536) else (0, 0)
def quiet (r : RowD) : Bool := decide (r.sum = 0) && !r.set && decide (r.n = 0)
def timerP (r : RowD) : Prop := if r.n = 0 then r.mn = 0 ∧ r.mx = 0 ∧ r.total = 0 ∧ r.dropped = 0 else
  (1 ≤ r.n ∧ r.n ≤ 3) ∧ (0 ≤ r.mn ∧ r.mn ≤ r.mx) ∧ r.mx ≤ 65535 ∧ (r.mn * r.n ≤ r.total ∧ r.total ≤ r.mx * r.n) ∧ (0 ≤ r.dropped ∧ r.dropped ≤ 65535) ∧ (r.dropped = 0 ∨ r.n = 3)
instance (r : RowD) : Decidable (timerP r) := by unfold timerP; infer_instance
def rowP (r : RowD) : Prop := keyOk r.key = true ∧
  if r.kind = 1 then wordP r.sum ∧ r.set = false ∧ r.last = 0 ∧ r.n = 0 ∧ r.mn = 0 ∧ r.mx = 0 ∧ r.total = 0 ∧ r.dropped = 0
  else if r.kind = 2 then r.sum = 0 ∧ (0 ≤ r.last ∧ r.last ≤ 65535) ∧ (r.set = true ∨ r.last = 0) ∧ r.n = 0 ∧ r.mn = 0 ∧ r.mx = 0 ∧ r.total = 0 ∧ r.dropped = 0
  else if r.kind = 3 then r.sum = 0 ∧ r.set = false ∧ r.last = 0 ∧ timerP r else False
instance (r : RowD) : Decidable (rowP r) := by unfold rowP; infer_instance
def rowOk (r : RowD) : Bool := decide (rowP r)
def sampled (r : RowD) (v : Int) : RowD :=
  if rowP r ∧ r.kind = 3 ∧ 0 ≤ v ∧ v ≤ 65535 then
    if r.n = 3 then { r with dropped := if 65535 < r.dropped + 1 then 65535 else r.dropped + 1 }
    else { r with mn := if r.n = 0 then v else if v < r.mn then v else r.mn, mx := if r.n = 0 then v else if v > r.mx then v else r.mx, total := r.total + v, n := r.n + 1 }
  else r
def counted (r : RowD) (v : Int) : RowD := if rowP r ∧ r.kind = 1 ∧ 0 ≤ v ∧ v ≤ 65535 then { r with sum := (r.sum + v) % 281474976710656 } else r
def samples (raw : List Int) : Nat → RowD → RowD
  | 0, r => r
  | k + 1, r => sampled (samples raw k r) (IntKind.i64.wrap (raw.getD (5 + k) 0 - 1))
def timerRow (raw : List Int) (r : RowD) : RowD :=
  let r := samples raw (min 3 (raw.getD 4 0).toNat) r
  if r.n = 3 ∧ 3 < raw.getD 4 0 then { r with dropped := if 65535 < raw.getD 4 0 - 3 then 65535 else raw.getD 4 0 - 3 } else r
def rowFrom (tag : Int) (raw : List Int) : RowD :=
  if (untag tag).2 = 0 ∨ ¬ (raw.length : Int) = 8 then row0 else
  let r : RowD := { row0 with key := (untag tag).1, kind := (untag tag).2 }
  if (untag tag).2 = 1 then { r with sum := (raw.getD 0 0 + raw.getD 1 0) % 281474976710656 }
  else if (untag tag).2 = 2 then { r with set := decide (0 < (unpackGauge (raw.getD 3 0)).1), last := (unpackGauge (raw.getD 3 0)).2 }
  else timerRow raw r
def rowIn (a : List Int) (b s : Int) : RowD := if cellsOk a = true ∧ 0 ≤ slotBase b s then rowFrom (a.getD (keyCell s).toNat 0) ((a.drop (slotBase b s).toNat).take 8) else row0
def RTo (p : Nat → Bool) (i : Nat) : Prop := ∀ j, j < i → p j = true
theorem RTo.zero (p : Nat → Bool) : RTo p 0 := fun _ h => by omega
theorem RTo.succ {p : Nat → Bool} {i : Nat} (h : RTo p i) (hp : p i = true) : RTo p (i + 1) := fun j hj => by
  rcases Nat.lt_succ_iff_lt_or_eq.1 hj with hj | rfl
  · exact h j hj
  · exact hp
theorem range_done {p : Nat → Bool} {n i : Nat} (h : RTo p i) (hi : n ≤ i) : (List.range n).all p = true := by
  rw [List.all_eq_true]
  intro j hj
  exact h j (by have := List.mem_range.1 hj; omega)
theorem range_fail {p : Nat → Bool} {n i : Nat} (hi : i < n) (hp : p i = false) : (List.range n).all p = false := by
  rw [List.all_eq_false]
  exact ⟨i, List.mem_range.2 hi, by simp [hp]⟩
def keyLe (a b : ByteArray) : Bool := Op.bytesLess a.toList b.toList || decide (a = b)
def repAt (l : List RowD) (i : Nat) : Bool := rowOk (l.getD i row0) && !quiet (l.getD i row0) && (decide (i = 0) || !keyLe (l.getD i row0).key (l.getD (i - 1) row0).key)
def reportOk (l : List RowD) : Bool := (List.range l.length).all (repAt l) && decide ((l.length : Int) ≤ 4)
def krow0 : KRowD := ⟨⟨#[]⟩, 0⟩
def keyAt (l : List KRowD) (i : Nat) : Bool := !decide (tagged (l.getD i krow0).key (l.getD i krow0).kind = 0) && (decide (i = 0) || !keyLe (l.getD i krow0).key (l.getD (i - 1) krow0).key)
def modelOk (m : ModelD) : Bool := (List.range m.keys.length).all (keyAt m.keys) && (m.rows.all fun r => decide (modelKind m r.key = r.kind)) && decide ((m.keys.length : Int) ≤ 4) && reportOk m.rows
end Go.Proofs.Ythcjolappblieaa.Aw
