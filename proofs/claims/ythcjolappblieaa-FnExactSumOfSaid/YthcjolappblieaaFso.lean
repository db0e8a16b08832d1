/- The library's sort at numbers, met by its contract on the shelf. -/
import Derived.Test.YthcjolappblieaaBC
import Derived.Test.YthcjolappblieaaSh
import Derived.Shelf.Slices.In.SortNone
namespace Go.Proofs.Ythcjolappblieaa.Aw
open Go Go.RowKit Go.Sort
set_option linter.unusedVariables false
set_option linter.unusedSimpArgs false
set_option maxRecDepth 100000
set_option maxHeartbeats 2000000
attribute [-go_sem] wr_eq
/-- Blocks of the machine's that are new and not ours. -/
theorem Inv.grow {W0 W : World} {φ : Phi} {H : AH} (h : Inv W0 φ H W) (os : Array Obj) : Inv W0 φ H (Sort.grow W os) := by
  have hk : ∀ k, k < W.heap.size → (Sort.grow W os).heap[k]? = W.heap[k]? := fun k hk => by
    simp only [Sort.grow]; rw [Array.getElem?_append_left hk]
  refine ⟨⟨h.below.os, h.below.tape, h.below.output, ?_, fun k hkk => ?_⟩, fun b B hB => ?_, h.inj, h.wf, h.non⟩
  · have := h.below.size
    simp only [Sort.grow, Array.size_append]; omega
  · rw [hk k (by have := h.below.size; omega)]; exact h.below.block k hkk
  · obtain ⟨p, h1, h2, h3, h4, C, e, h5, h6⟩ := h.blks b B hB
    exact ⟨p, h1, h2, h3, h4, C, e, by rw [hk _ (Array.getElem?_eq_some_iff.1 h5).1]; exact h5, h6⟩
theorem Inv.ahead {W0 W : World} {φ : Phi} {H : AH} (h : Inv W0 φ H W) (n : Nat) : Inv W0 φ H (Sort.ahead W n) := h.drawn _
theorem iv_map (xs : List Int) : encL xs = xs.map fun x => AV.v (.int .i64 x) := by
  induction xs with
  | nil => rfl
  | cons x xs ih => rw [encL_cons, ih]; rfl
theorem VRs.ints {φ : Phi} (xs : List Int) : VRs φ (encL xs) (xs.map (Value.int .i64)) := by
  rw [iv_map]
  have := VRs.vs (φ := φ) (xs.map (Value.int .i64))
  rwa [List.map_map] at this
theorem putCells_eq {C : Array Value} (ts : List Int) (o : Nat) (ho : o + ts.length ≤ C.size) : Sort.putCells (Value.int .i64) o ts.toArray C = (C.toList.take o ++ ts.map (Value.int .i64) ++ C.toList.drop (o + (ts.map (Value.int .i64)).length)).toArray := by
  apply Array.ext_getElem?
  intro j
  simp only [Sort.putCells, Array.getElem?_mapIdx, List.getElem?_toArray, List.size_toArray, List.length_map]
  have hl1 : (C.toList.take o).length = o := by simp; omega
  by_cases h1 : j < o
  · rw [List.append_assoc, List.getElem?_append_left (by omega), List.getElem?_take, if_pos h1, Array.getElem?_toList]
    cases C[j]? with
    | none => rfl
    | some y => simp only [Option.map_some]; rw [if_neg (by omega)]
  · rw [List.append_assoc, List.getElem?_append_right (by omega), hl1]
    by_cases h2 : j < o + ts.length
    · rw [List.getElem?_append_left (by simp; omega), Array.getElem?_eq_getElem (by omega)]
      simp only [Option.map_some]
      rw [if_pos (by omega)]
      simp only [List.getElem?_map]
      have h3 : j - o < ts.length := by omega
      rw [List.getElem?_eq_getElem h3]
      simp [h3]
    · rw [List.getElem?_append_right (by simp; omega), List.getElem?_drop, Array.getElem?_toList, List.length_map, show o + ts.length + (j - o - ts.length) = j by omega]
      cases C[j]? with
      | none => rfl
      | some y => simp only [Option.map_some]; rw [if_neg (by omega)]
theorem putRow_set {W : World} {g o : Nat} {C : Array Value} {e : TypeId} (hC : W.heap[g]? = some (.cells C e (0, 0))) (ts : List Int) (ho : o + ts.length ≤ C.size) :
    Sort.putRow (Value.int .i64) W g o ts.toArray = W.setRow g (C.toList.take o ++ ts.map (Value.int .i64) ++ C.toList.drop (o + (ts.map (Value.int .i64)).length)).toArray := by
  unfold Sort.putRow Sort.mapBlock World.setRow
  congr 1
  apply Array.ext_getElem?
  intro k
  simp only [Array.getElem?_modify]
  by_cases hk : g = k
  · subst hk
    simp only [if_true, hC, Option.map_some, Sort.onCells, putCells_eq ts o ho]
  · simp [hk]
theorem SortInt_ok (W0 : World) (v : AV) (xs : List Int) (S : List Nat) (H : AH) (ho : OwnS H S v xs) (hl : xs.length < 4611686018427387904) : ACalls Try.prog W0 142 [v] H (fun u H' => u = .tup [] ∧ Chg S H H' ∧ OwnS H' S v (xs.mergeSort fun x y => decide (x ≤ y))) := by
  refine ⟨by kernel_rfl, fun φ W ys hI hv => ?_⟩
  cases hv with
  | cons v1 hv =>
  cases hv
  rcases ho.flat with ⟨rfl, rfl, rfl⟩ | ⟨b, o, cs, rfl, hB, hle, hbig, rfl, hcs, hok⟩
  · cases v1
    exact (Any.slices_Sort_int_none Try.lays189 none 0 W).mono fun e W' ⟨h1, h2⟩ => ⟨_, .tup [], H, φ, h1, .tup .nil, h2 ▸ hI, Ext.refl _, rfl, Chg.refl _ _, by simpa using ho⟩
  · obtain ⟨p, hp, g1, g2, g3, C, et, hC, g4, g5⟩ := hI.blks b _ hB
    cases v1 with
    | sl q1 q2 q3 =>
    rename_i c ad p1
    rw [hp] at q1; cases q1
    simp only [Ob.n, Nat.mul_one] at hB hle hcs g2 g3
    rcases Nat.eq_zero_or_pos xs.length with hz | hz
    · obtain rfl := List.eq_nil_of_length_eq_zero hz
      exact (Any.slices_Sort_int_none Try.lays189 (some ad) c W).mono fun e W' ⟨h1, h2⟩ => ⟨_, .tup [], H, φ, h1, .tup .nil, h2 ▸ hI, Ext.refl _, rfl, Chg.refl _ _, by simpa using ho⟩
    · obtain ⟨rfl, q4⟩ := q3.resolve_left (by omega)
      have hcell : ∀ j (hj : j < xs.length), C[p.base + o + j]? = some (.int .i64 xs[j]) := fun j hj => by
        have h1 : cs[o + j]? = some (AV.v (.int .i64 xs[j])) := by
          have h2 := congrArg (fun l => l[j]?) hcs
          simp only [List.getElem?_take, if_pos hj, List.getElem?_drop] at h2
          rw [h2, iv_map]; simp [hj]
        obtain ⟨y, hy, hvr⟩ := g5 _ _ h1
        rw [← Nat.add_assoc] at hy
        rw [hy, hvr.v_eq]
      have hH : Sort.Holds (Value.int .i64) W p.g (p.base + o) xs.toArray := fun j hj => by
        have hj' : j < xs.length := by simpa using hj
        refine ⟨?_, by simp [World.frozen?, hC]⟩
        simp only [World.cell?, hC, Option.isSome_none, Bool.false_eq_true, if_false]
        rw [hcell j hj']
        simp [hj']
      have hgl : p.g < W.heap.size := (Array.getElem?_eq_some_iff.1 hC).1
      refine (Any.slices_Sort_int Try.lays189 p.g (p.base + o) c xs W hH hgl hl).mono ?_
      rintro e W' ⟨rfl, n, os, rfl⟩
      have hlen : (xs.mergeSort fun x y => decide (x ≤ y)).length = xs.length := List.length_mergeSort xs
      generalize hms : (xs.mergeSort fun x y => decide (x ≤ y)) = ts at *
      have hel : (encL ts).length = ts.length := by rw [iv_map]; simp
      have hokt : ∀ y ∈ ts, Flat.ok y := fun y hy => hok y (by rw [← hms] at hy; exact (List.mergeSort_perm xs _).mem_iff.1 hy)
      have hI2 := hI.ahead n
      have hI3 := hI2.wrAt hB hp (C := C) (e := et) hC o (VRs.ints (φ := φ) ts) (by simp only [hel]; omega)
      have hput := putRow_set (W := Sort.ahead W n) (g := p.g) (o := p.base + o) hC ts (by omega)
      rw [← hput] at hI3
      have hcl : (cs.take o).length = o := by simp; omega
      refine ⟨_, .tup [], _, φ, rfl, .tup .nil, hI3.grow os, Ext.refl _, rfl, (Chg.refl _ _).set (by simp) _, ?_⟩
      rw [← hlen]
      refine OwnS.ofFlat (blk_set_self _ _ _) ?_ ?_ (by omega) hokt rfl
      · simp only [Ob.n, Nat.mul_one, wr]
        rw [List.append_assoc, List.drop_left' hcl, List.take_left' hel]
      · simp only [Ob.n, Nat.mul_one]
        rw [wr_length _ _ _ (by simp only [hel]; omega)]; omega
end Go.Proofs.Ythcjolappblieaa.Aw
