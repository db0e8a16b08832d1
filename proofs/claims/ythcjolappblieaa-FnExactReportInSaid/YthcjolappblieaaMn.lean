/- The table of keys and the cells, in plain Lean. -/
import Derived.Test.YthcjolappblieaaMr
namespace Go.Proofs.Ythcjolappblieaa.Aw
open Go
set_option linter.unusedVariables false
/-- FNV, of the first i bytes. -/
def hashN (s : ByteArray) : Nat → Nat
  | 0 => 2166136261
  | i + 1 => (hashN s i ^^^ (bt s i).toNat) * 16777619 % 4294967296
def hashK (s : ByteArray) : Int := (hashN s s.size : Nat)
theorem hashN_lt (s : ByteArray) : ∀ i, hashN s i < 4294967296
  | 0 => by simp [hashN]
  | i + 1 => by simp only [hashN]; exact Nat.mod_lt _ (by decide)
def probe (key : ByteArray) (n : Int) : Int := if keyOk key = true ∧ 0 ≤ n ∧ n ≤ 3 then (hashK key + n) % 4 else -1
theorem probe_bd {key : ByteArray} {n : Int} (hk : keyOk key = true) (h0 : 0 ≤ n) (h1 : n ≤ 3) : 0 ≤ probe key n ∧ probe key n ≤ 3 := by
  rw [probe, if_pos ⟨hk, h0, h1⟩]; omega
def keyAt6 (a : List Int) (key : ByteArray) (n : Nat) : Int := a.getD (3 + (probe key n).toNat) 0
/-- Where the search for a key ends, from the n-th step on: slot, kind, free slot. -/
def find6 (a : List Int) (key : ByteArray) : Nat → Nat → Int × Int × Int
  | 0, _ => (-1, 0, -1)
  | f + 1, n => if keyAt6 a key n = 0 then (-1, 0, probe key n) else if (untag (keyAt6 a key n)).1 = key then (probe key n, (untag (keyAt6 a key n)).2, -1) else find6 a key f (n + 1)
def findKey (a : List Int) (key : ByteArray) : Int × Int := if cellsOk a = true ∧ keyOk key = true then ((find6 a key 4 0).1, (find6 a key 4 0).2.1) else (-1, 0)
/-- The probe's end: a slot, and whether the key is there. -/
def probed (a : List Int) (key : ByteArray) : Int × Bool :=
  if (find6 a key 4 0).1 ≠ -1 then ((find6 a key 4 0).1, true) else ((find6 a key 4 0).2.2, false)
theorem find6_bd {a : List Int} {key : ByteArray} (hk : keyOk key = true) : ∀ (f n : Nat), n + f ≤ 4 → -1 ≤ (find6 a key f n).1 ∧ (find6 a key f n).1 ≤ 3 ∧ -1 ≤ (find6 a key f n).2.2 ∧ (find6 a key f n).2.2 ≤ 3 ∧ ((find6 a key f n).1 ≠ -1 → (find6 a key f n).2.1 = (untag (a.getD (3 + (find6 a key f n).1.toNat) 0)).2 ∧ (untag (a.getD (3 + (find6 a key f n).1.toNat) 0)).1 = key)
  | 0, n, _ => by simp [find6]
  | f + 1, n, h => by
    have hp := probe_bd hk (n := n) (by omega) (by omega)
    simp only [find6]
    split
    · simp; omega
    · split
      · rename_i h1
        refine ⟨by simp; omega, by simp; omega, by simp, by simp, fun _ => ⟨rfl, h1⟩⟩
      · exact find6_bd hk f (n + 1) (by omega)
theorem untag_ok {n : Int} (h : keyOk (untag n).1 = true) : 1 ≤ (untag n).2 ∧ (untag n).2 ≤ 3 := by
  unfold untag at *
  split
  · simp only; omega
  · rename_i hn
    rw [if_neg hn] at h
    exact absurd h (by decide)
theorem findKey_bd {a : List Int} {key : ByteArray} : -1 ≤ (findKey a key).1 ∧ (findKey a key).1 ≤ 3 ∧ ((findKey a key).1 ≠ -1 → 1 ≤ (findKey a key).2 ∧ (findKey a key).2 ≤ 3) := by
  unfold findKey
  split
  · rename_i h
    obtain ⟨h1, h2, _, _, h3⟩ := find6_bd (a := a) h.2 4 0 (by omega)
    refine ⟨h1, h2, fun hn => ?_⟩
    obtain ⟨e1, e2⟩ := h3 hn
    simp only [e1]
    exact untag_ok (by rw [e2]; exact h.2)
  · simp
/-! ### Cells -/
def word : Int := 281474976710656
def loadC (a : List Int) (i : Int) : Int × Bool := if cellsOk a = true ∧ 0 ≤ i ∧ i ≤ 70 then (a.getD i.toNat 0, true) else (0, false)
def storeC (a : List Int) (i n : Int) : List Int × Bool := if cellsOk a = true ∧ (0 ≤ i ∧ i ≤ 70) ∧ wordP n then (a.set i.toNat n, true) else (a, false)
def casC (a : List Int) (i old to : Int) : List Int × Bool := if cellsOk a = true ∧ (0 ≤ i ∧ i ≤ 70) ∧ a.getD i.toNat 0 = old then storeC a i to else (a, false)
def addC (a : List Int) (i n : Int) : List Int × Int := if cellsOk a = true ∧ (0 ≤ i ∧ i ≤ 70) ∧ -281474976710655 ≤ n ∧ n ≤ 281474976710655 then (a.set i.toNat ((a.getD i.toNat 0 + n) % 281474976710656), a.getD i.toNat 0) else (a, -1)
def swapC (a : List Int) (i n : Int) : List Int × Int := if (storeC a i n).2 = true then ((storeC a i n).1, a.getD i.toNat 0) else (a, -1)
theorem cellsOk_iff {a : List Int} : cellsOk a = true ↔ (∀ x ∈ a, wordP x) ∧ a.length = 71 := by
  unfold cellsOk
  simp only [Bool.and_eq_true, List.all_eq_true, decide_eq_true_eq]
  constructor
  · rintro ⟨h1, h2⟩; exact ⟨h1, by omega⟩
  · rintro ⟨h1, h2⟩; exact ⟨h1, by omega⟩
theorem cellsOk_get {a : List Int} (h : cellsOk a = true) (i : Nat) : wordP (a.getD i 0) := by
  rw [List.getD_eq_getElem?_getD]
  by_cases hi : i < a.length
  · rw [List.getElem?_eq_getElem hi]; exact (cellsOk_iff.1 h).1 _ (List.getElem_mem hi)
  · rw [List.getElem?_eq_none (by omega)]; simp [wordP]
theorem cellsOk_set {a : List Int} (h : cellsOk a = true) (i : Nat) {n : Int} (hn : wordP n) : cellsOk (a.set i n) = true := by
  rw [cellsOk_iff] at *
  refine ⟨fun x hx => ?_, by simpa using h.2⟩
  rcases List.mem_or_eq_of_mem_set hx with hx | rfl
  · exact h.1 x hx
  · exact hn
theorem wordP_mod (n : Int) : wordP (n % 281474976710656) := by unfold wordP; omega
/-- A value into a slot of a buffer. -/
def recPut (a : List Int) (b slot kind w v : Int) : List Int × Bool :=
  let at_ := (slotBase b slot).toNat
  if kind = 1 then (a.set (at_ + (w % 2).toNat) ((a.getD (at_ + (w % 2).toNat) 0 + v) % 281474976710656), false)
  else if kind = 2 then
    let st := (a.getD (at_ + 2) 0 + 1) % 281474976710656
    let a1 := a.set (at_ + 2) st
    if (unpackGauge (a1.getD (at_ + 3) 0)).1 ≤ st then (a1.set (at_ + 3) (packGauge st v), false) else (a1, false)
  else
    let k := a.getD (at_ + 4) 0
    let a1 := a.set (at_ + 4) ((k + 1) % 281474976710656)
    if 3 ≤ k then (a1, true) else (a1.set (at_ + 5 + k.toNat) (v + 1), false)
def recordNow (a : List Int) (w : Int) (key : ByteArray) (v : Int) : List Int × Int :=
  if ¬ (cellsOk a = true ∧ (0 ≤ w ∧ w ≤ 2) ∧ keyOk key = true ∧ 0 ≤ v ∧ v ≤ 65535) then (a, 1)
  else if (findKey a key).1 < 0 then (a, 2)
  else
    let r := recPut a (a.getD 0 0 % 2) (findKey a key).1 (findKey a key).2 w v
    (r.1, if r.2 = true then 5 else 0)
def clearTo (a : List Int) (b : Int) : Nat → List Int
  | 0 => a
  | i + 1 => (clearTo a b i).set (7 + b.toNat * 32 + i) 0
def clearBuf (a : List Int) (b : Int) : List Int := if cellsOk a = true ∧ 0 ≤ b ∧ b ≤ 1 then clearTo a b 32 else a
def flushNow (a : List Int) : List Int × List RowD :=
  if cellsOk a = true then (let b := a.getD 0 0 % 2; let x := clearBuf a b; (x.set 0 ((a.getD 0 0 + 1) % 281474976710656), reportIn a b)) else (a, [])
theorem clearTo_length (a : List Int) (b : Int) : ∀ i, (clearTo a b i).length = a.length
  | 0 => rfl
  | i + 1 => by simp [clearTo, clearTo_length a b i]
end Go.Proofs.Ythcjolappblieaa.Aw
