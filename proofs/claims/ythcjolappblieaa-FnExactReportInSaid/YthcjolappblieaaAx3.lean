/- The calculus 'Aw' at work, part 3: rules. -/
import Derived.Test.YthcjolappblieaaAx2
import Derived.Laws.Strings
namespace Go.Proofs.Ythcjolappblieaa.Aw
open Go Go.RowKit
set_option linter.unusedVariables false
set_option linter.unusedSimpArgs false
set_option linter.unusedSectionVars false
variable {P : Program} {W0 : World}

theorem leafA_int (k : IntKind) (n : Int) : leafA (.v (.int k n)) = true := rfl
theorem leafA_bool (b : Bool) : leafA (.v (.bool b)) = true := rfl
theorem leafA_string (b : ByteArray) : leafA (.v (.string b)) = true := rfl
theorem leafA_slice (a : Option Addr) (n c : Nat) : leafA (.v (.slice a n c)) = true := rfl
theorem leafA_pointer (a : Option Addr) : leafA (.v (.pointer a)) = true := rfl
theorem leafA_sl (b o n : Nat) : leafA (.sl b o n) = true := rfl
theorem leafA_slc (b o n c : Nat) : leafA (.slc b o n c) = true := rfl
theorem leafA_sl0 : leafA .sl0 = true := rfl
theorem leafA_ptr (b o : Nat) : leafA (.ptr b o) = true := rfl
theorem leafA_fn (f : FuncId) (c : List AV) : leafA (.fn f c) = true := rfl
theorem aK_rd {K : Kl} {o n L : Nat} {cs r : List AV} (h : o + n ≤ L) (hr : (cs.drop o).take n = r) (k : K.k r) : aK (K := K) (if o + n ≤ L then some ((cs.drop o).take n) else none) := by
  rw [if_pos h, hr]; exact k
theorem aK_to {K : Kl} {x : Option (List AV)} (r : List AV) (h : x = some r) (k : K.k r) : aK (K := K) x := by rw [h]; exact k
theorem take_one {cs : List AV} {o : Nat} {v : AV} (h : cs[o]? = some v) : (cs.drop o).take 1 = [v] := by
  obtain ⟨h1, h2⟩ := List.getElem?_eq_some_iff.1 h
  rw [List.drop_eq_getElem_cons h1, h2]; simp
theorem bytes_eq_iff (a b : ByteArray) : (a.toList == b.toList) = decide (a = b) := by
  have h : a.toList = b.toList ↔ a = b := by
    constructor
    · intro h
      rw [ByteArray.toList_eq, ByteArray.toList_eq] at h
      exact ByteArray.ext (Array.toList_inj.mp h)
    · rintro rfl; rfl
  by_cases hab : a = b
  · subst hab; simp
  · have : a.toList ≠ b.toList := fun h' => hab (h.1 h')
    simp [hab, this]
theorem set_new (H : AH) (cs : List AV) (s : Nat) (B : Blk) : (H.new cs s).set H.nxt B = H.new B.cells B.esz := by
  cases B
  simp only [AH.new, AH.set, AH.mk.injEq, and_true]
  funext b
  by_cases h : b = H.nxt <;> simp [h]
theorem wr_all (l cs : List AV) (h : l.length = cs.length) : wr l 0 cs = cs := by
  simp [wr, ← h]
/-! ### The law, called -/
def H0 : AH := ⟨fun _ => none, 0⟩
def φ0 : Phi := fun _ => none
theorem Inv.start (W : World) : Inv W φ0 H0 W := ⟨Below.refl _ _, fun _ _ h => (by cases h), fun _ _ _ _ h => (by cases h), fun _ _ => rfl, fun _ _ => rfl⟩
theorem law_calls {W : World} {f : FuncId} {args : List AV} {ys : List Value} (h : ACalls P W f args H0 (fun v _ => v = .v (.bool true))) (hv : VRs φ0 args ys) :
    Calls P f ys.toArray W fun e W' => e = .returned (.bool true) ∧ Below W.heap.size W W' := by
  refine (h.2 φ0 W ys (Inv.start W) hv).mono ?_
  rintro e W' ⟨y, v, H', φ', rfl, hv, hI, _, rfl⟩
  exact ⟨by rw [hv.v_eq], hI.below⟩
end Go.Proofs.Ythcjolappblieaa.Aw
