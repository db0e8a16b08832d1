/- The functions PcWord of both packages, and the law over them: at every argument the two agree. -/
import Derived.Test.YtiapkahjolbgmaaAty
import Derived.Test.YtiapkahjolbgmaaAx3
namespace Go.Proofs.Ytiapkahjolbgmaa.Aw
open Go Go.RowKit
set_option linter.unusedVariables false
set_option maxRecDepth 100000
set_option linter.unusedSimpArgs false
theorem l1In_spec (W0 : World) (x lo hi : Int) (H : AH) : ACalls Try.prog W0 54 [.v (.int .i64 x), .v (.int .i64 lo), .v (.int .i64 hi)] H (fun v H' => v = .v (.bool (decide (x ≥ lo) && decide (x ≤ hi))) ∧ H' = H) := by
  refine acalls_of Try.func54 rfl (by kernel_rfl) (by kernel_rfl) ?_
  simp only [go_sem, reduceIte, Nat.reduceEqDiff, List.map_cons, List.map_nil, Option.map_some, Option.map_none, Bool.not_true, Bool.not_false, Option.isSome_some, Option.bind_some, bytes_eq_iff, Nat.zero_add, Nat.add_zero, Nat.mul_one, List.length_cons, List.length_nil, Nat.reduceAdd, Nat.reduceMul, Nat.reduceLeDiff, List.drop_succ_cons, List.drop_zero, List.take_succ_cons, List.take_zero, List.headD_cons, true_and, and_true, List.append_nil, List.nil_append, List.cons_append, decide_true, decide_false]
  refine agrd_split (fun h => ?_) (fun h => ?_)
  · simp only [go_sem, reduceIte, Nat.reduceEqDiff, List.map_cons, List.map_nil, Option.map_some, Option.map_none, Bool.not_true, Bool.not_false, Option.isSome_some, Option.bind_some, bytes_eq_iff, Nat.zero_add, Nat.add_zero, Nat.mul_one, List.length_cons, List.length_nil, Nat.reduceAdd, Nat.reduceMul, Nat.reduceLeDiff, List.drop_succ_cons, List.drop_zero, List.take_succ_cons, List.take_zero, List.headD_cons, true_and, and_true, List.append_nil, List.nil_append, List.cons_append, decide_true, decide_false]
    refine retK_one ?_
    simp_all
  · simp only [go_sem, reduceIte, Nat.reduceEqDiff, List.map_cons, List.map_nil, Option.map_some, Option.map_none, Bool.not_true, Bool.not_false, Option.isSome_some, Option.bind_some, bytes_eq_iff, Nat.zero_add, Nat.add_zero, Nat.mul_one, List.length_cons, List.length_nil, Nat.reduceAdd, Nat.reduceMul, Nat.reduceLeDiff, List.drop_succ_cons, List.drop_zero, List.take_succ_cons, List.take_zero, List.headD_cons, true_and, and_true, List.append_nil, List.nil_append, List.cons_append, decide_true, decide_false]
    refine retK_one ?_
    simp_all
    omega
theorem within_spec (W0 : World) (x lo hi : Int) (H : AH) : ACalls Try.prog W0 55 [.v (.int .i64 x), .v (.int .i64 lo), .v (.int .i64 hi)] H (fun v H' => v = .v (.bool (decide (x ≥ lo) && decide (x ≤ hi))) ∧ H' = H) := by
  refine acalls_of Try.func55 rfl (by kernel_rfl) (by kernel_rfl) ?_
  simp only [go_sem, reduceIte, Nat.reduceEqDiff, List.map_cons, List.map_nil, Option.map_some, Option.map_none, Bool.not_true, Bool.not_false, Option.isSome_some, Option.bind_some, bytes_eq_iff, Nat.zero_add, Nat.add_zero, Nat.mul_one, List.length_cons, List.length_nil, Nat.reduceAdd, Nat.reduceMul, Nat.reduceLeDiff, List.drop_succ_cons, List.drop_zero, List.take_succ_cons, List.take_zero, List.headD_cons, true_and, and_true, List.append_nil, List.nil_append, List.cons_append, decide_true, decide_false]
  refine agrd_split (fun h => ?_) (fun h => ?_)
  · simp only [go_sem, reduceIte, Nat.reduceEqDiff, List.map_cons, List.map_nil, Option.map_some, Option.map_none, Bool.not_true, Bool.not_false, Option.isSome_some, Option.bind_some, bytes_eq_iff, Nat.zero_add, Nat.add_zero, Nat.mul_one, List.length_cons, List.length_nil, Nat.reduceAdd, Nat.reduceMul, Nat.reduceLeDiff, List.drop_succ_cons, List.drop_zero, List.take_succ_cons, List.take_zero, List.headD_cons, true_and, and_true, List.append_nil, List.nil_append, List.cons_append, decide_true, decide_false]
    refine retK_one ?_
    simp_all
  · simp only [go_sem, reduceIte, Nat.reduceEqDiff, List.map_cons, List.map_nil, Option.map_some, Option.map_none, Bool.not_true, Bool.not_false, Option.isSome_some, Option.bind_some, bytes_eq_iff, Nat.zero_add, Nat.add_zero, Nat.mul_one, List.length_cons, List.length_nil, Nat.reduceAdd, Nat.reduceMul, Nat.reduceLeDiff, List.drop_succ_cons, List.drop_zero, List.take_succ_cons, List.take_zero, List.headD_cons, true_and, and_true, List.append_nil, List.nil_append, List.cons_append, decide_true, decide_false]
    refine retK_one ?_
    simp_all
    omega
def pcTab : List ByteArray := [⟨#[112, 114, 111, 98, 101]⟩, ⟨#[99, 108, 97, 105, 109]⟩, ⟨#[101, 112, 111, 99, 104]⟩, ⟨#[101, 110, 116, 101, 114]⟩, ⟨#[114, 101, 99, 104, 101, 99, 107]⟩, ⟨#[100, 97, 116, 97]⟩, ⟨#[108, 111, 111, 107]⟩, ⟨#[99, 97, 115]⟩,
  ⟨#[115, 116, 111, 114, 101]⟩, ⟨#[101, 120, 105, 116]⟩, ⟨#[108, 101, 97, 118, 101]⟩, ⟨#[116, 101, 108, 108]⟩, ⟨#[115, 119, 97, 112]⟩, ⟨#[119, 97, 105, 116]⟩, ⟨#[107, 101, 121, 115]⟩, ⟨#[100, 114, 97, 105, 110]⟩]
def pcW (x : Int) : ByteArray := if 0 ≤ x ∧ x ≤ 15 then pcTab.getD x.toNat .empty else .empty
theorem pcTab_get (x : Nat) (h : x < 16) : (pcTab.map fun s => AV.v (.string s))[x]? = some (.v (.string (pcTab.getD x .empty))) := by
  have : x < pcTab.length := h
  simp [this]
theorem PcWord_spec (W0 : World) (x : Int) (H : AH) : ACalls Try.prog W0 15 [.v (.int .i64 x)] H (fun v H' => v = .v (.string (pcW x))) := by
  refine acalls_of Try.func15 rfl (by kernel_rfl) (by kernel_rfl) ?_
  simp only [go_sem, reduceIte, Nat.reduceEqDiff, List.map_cons, List.map_nil, Option.map_some, Option.map_none, Bool.not_true, Bool.not_false, Option.isSome_some, Option.bind_some, bytes_eq_iff, Nat.zero_add, Nat.add_zero, Nat.mul_one, List.length_cons, List.length_nil, Nat.reduceAdd, Nat.reduceMul, Nat.reduceLeDiff, List.drop_succ_cons, List.drop_zero, List.take_succ_cons, List.take_zero, List.headD_cons, true_and, and_true, List.append_nil, List.nil_append, List.cons_append, decide_true, decide_false]
  refine ACallK.of (l1In_spec _ _ _ _ _) ?_
  rintro _ _ ⟨rfl, rfl⟩
  simp only [go_sem, reduceIte, Nat.reduceEqDiff, List.map_cons, List.map_nil, Option.map_some, Option.map_none, Bool.not_true, Bool.not_false, Option.isSome_some, Option.bind_some, bytes_eq_iff, Nat.zero_add, Nat.add_zero, Nat.mul_one, List.length_cons, List.length_nil, Nat.reduceAdd, Nat.reduceMul, Nat.reduceLeDiff, List.drop_succ_cons, List.drop_zero, List.take_succ_cons, List.take_zero, List.headD_cons, true_and, and_true, List.append_nil, List.nil_append, List.cons_append, decide_true, decide_false]
  refine acond_split (fun h => ?_) (fun h => ?_)
  · simp only [go_sem, reduceIte, Nat.reduceEqDiff, List.map_cons, List.map_nil, Option.map_some, Option.map_none, Bool.not_true, Bool.not_false, Option.isSome_some, Option.bind_some, bytes_eq_iff, Nat.zero_add, Nat.add_zero, Nat.mul_one, List.length_cons, List.length_nil, Nat.reduceAdd, Nat.reduceMul, Nat.reduceLeDiff, List.drop_succ_cons, List.drop_zero, List.take_succ_cons, List.take_zero, List.headD_cons, true_and, and_true, List.append_nil, List.nil_append, List.cons_append, decide_true, decide_false]
    refine retK_one ?_
    rw [pcW, if_neg]
    · rfl
    · simp at h; omega
  · simp only [go_sem, reduceIte, Nat.reduceEqDiff, List.map_cons, List.map_nil, Option.map_some, Option.map_none, Bool.not_true, Bool.not_false, Option.isSome_some, Option.bind_some, bytes_eq_iff, Nat.zero_add, Nat.add_zero, Nat.mul_one, List.length_cons, List.length_nil, Nat.reduceAdd, Nat.reduceMul, Nat.reduceLeDiff, List.drop_succ_cons, List.drop_zero, List.take_succ_cons, List.take_zero, List.headD_cons, true_and, and_true, List.append_nil, List.nil_append, List.cons_append, decide_true, decide_false]
    simp at h
    have hx : x.toNat < 16 := by omega
    apply aK_to (pcTab.map fun s => AV.v (.string s))
    · kernel_rfl
    simp only [go_sem, reduceIte, Nat.reduceEqDiff, List.map_cons, List.map_nil, Option.map_some, Option.map_none, Bool.not_true, Bool.not_false, Option.isSome_some, Option.bind_some, bytes_eq_iff, Nat.zero_add, Nat.add_zero, Nat.mul_one, List.length_cons, List.length_nil, Nat.reduceAdd, Nat.reduceMul, Nat.reduceLeDiff, List.drop_succ_cons, List.drop_zero, List.take_succ_cons, List.take_zero, List.headD_cons, true_and, and_true, List.append_nil, List.nil_append, List.cons_append, decide_true, decide_false, aixs]
    refine ⟨by omega, by omega, ?_⟩
    refine aK_rd (by simp [pcTab]; omega) (take_one (pcTab_get _ hx)) ?_
    simp only [go_sem, reduceIte, Nat.reduceEqDiff, List.map_cons, List.map_nil, Option.map_some, Option.map_none, Bool.not_true, Bool.not_false, Option.isSome_some, Option.bind_some, bytes_eq_iff, Nat.zero_add, Nat.add_zero, Nat.mul_one, List.length_cons, List.length_nil, Nat.reduceAdd, Nat.reduceMul, Nat.reduceLeDiff, List.drop_succ_cons, List.drop_zero, List.take_succ_cons, List.take_zero, List.headD_cons, true_and, and_true, List.append_nil, List.nil_append, List.cons_append, decide_true, decide_false]
    refine retK_one ?_
    rw [pcW, if_pos (by omega)]
theorem PcWord_impl (W0 : World) (x : Int) (H : AH) : ACalls Try.prog W0 16 [.v (.int .i64 x)] H (fun v H' => v = .v (.string (pcW x))) := by
  refine acalls_of Try.func16 rfl (by kernel_rfl) (by kernel_rfl) ?_
  simp only [go_sem, reduceIte, Nat.reduceEqDiff, List.map_cons, List.map_nil, Option.map_some, Option.map_none, Bool.not_true, Bool.not_false, Option.isSome_some, Option.bind_some, bytes_eq_iff, Nat.zero_add, Nat.add_zero, Nat.mul_one, List.length_cons, List.length_nil, Nat.reduceAdd, Nat.reduceMul, Nat.reduceLeDiff, List.drop_succ_cons, List.drop_zero, List.take_succ_cons, List.take_zero, List.headD_cons, true_and, and_true, List.append_nil, List.nil_append, List.cons_append, decide_true, decide_false]
  skip
  apply aK_to (pcTab.map fun s => AV.v (.string s))
  · kernel_rfl
  simp only [go_sem, reduceIte, Nat.reduceEqDiff, List.map_cons, List.map_nil, Option.map_some, Option.map_none, Bool.not_true, Bool.not_false, Option.isSome_some, Option.bind_some, bytes_eq_iff, Nat.zero_add, Nat.add_zero, Nat.mul_one, List.length_cons, List.length_nil, Nat.reduceAdd, Nat.reduceMul, Nat.reduceLeDiff, List.drop_succ_cons, List.drop_zero, List.take_succ_cons, List.take_zero, List.headD_cons, true_and, and_true, List.append_nil, List.nil_append, List.cons_append, decide_true, decide_false]
  skip
  refine ⟨rfl, rfl, ?_⟩
  refine ACallK.of (within_spec _ _ _ _ _) ?_
  rintro _ _ ⟨rfl, rfl⟩
  simp only [go_sem, reduceIte, Nat.reduceEqDiff, List.map_cons, List.map_nil, Option.map_some, Option.map_none, Bool.not_true, Bool.not_false, Option.isSome_some, Option.bind_some, bytes_eq_iff, Nat.zero_add, Nat.add_zero, Nat.mul_one, List.length_cons, List.length_nil, Nat.reduceAdd, Nat.reduceMul, Nat.reduceLeDiff, List.drop_succ_cons, List.drop_zero, List.take_succ_cons, List.take_zero, List.headD_cons, true_and, and_true, List.append_nil, List.nil_append, List.cons_append, decide_true, decide_false]
  refine acond_split (fun h => ?_) (fun h => ?_)
  · simp only [go_sem, reduceIte, Nat.reduceEqDiff, List.map_cons, List.map_nil, Option.map_some, Option.map_none, Bool.not_true, Bool.not_false, Option.isSome_some, Option.bind_some, bytes_eq_iff, Nat.zero_add, Nat.add_zero, Nat.mul_one, List.length_cons, List.length_nil, Nat.reduceAdd, Nat.reduceMul, Nat.reduceLeDiff, List.drop_succ_cons, List.drop_zero, List.take_succ_cons, List.take_zero, List.headD_cons, true_and, and_true, List.append_nil, List.nil_append, List.cons_append, decide_true, decide_false]
    refine retK_one ?_
    rw [pcW, if_neg]
    · rfl
    · simp at h; omega
  · simp at h
    have hx : x.toNat < 16 := by omega
    simp only [go_sem, reduceIte, Nat.reduceEqDiff, List.map_cons, List.map_nil, Option.map_some, Option.map_none, Bool.not_true, Bool.not_false, Option.isSome_some, Option.bind_some, bytes_eq_iff, Nat.zero_add, Nat.add_zero, Nat.mul_one, List.length_cons, List.length_nil, Nat.reduceAdd, Nat.reduceMul, Nat.reduceLeDiff, List.drop_succ_cons, List.drop_zero, List.take_succ_cons, List.take_zero, List.headD_cons, true_and, and_true, List.append_nil, List.nil_append, List.cons_append, decide_true, decide_false]
    refine ⟨by omega, by omega, ?_⟩
    rw [wr_all]
    · refine aK_rd (by simp [pcTab]; omega) (take_one (pcTab_get _ hx)) ?_
      simp only [go_sem, reduceIte, Nat.reduceEqDiff, List.map_cons, List.map_nil, Option.map_some, Option.map_none, Bool.not_true, Bool.not_false, Option.isSome_some, Option.bind_some, bytes_eq_iff, Nat.zero_add, Nat.add_zero, Nat.mul_one, List.length_cons, List.length_nil, Nat.reduceAdd, Nat.reduceMul, Nat.reduceLeDiff, List.drop_succ_cons, List.drop_zero, List.take_succ_cons, List.take_zero, List.headD_cons, true_and, and_true, List.append_nil, List.nil_append, List.cons_append, decide_true, decide_false]
      refine retK_one ?_
      rw [pcW, if_pos (by omega)]
    · rfl
theorem ExactPcWord_law (W0 : World) (x : Int) (H : AH) : ACalls Try.prog W0 3 [.v (.int .i64 x)] H (fun v _ => v = .v (.bool true)) := by
  refine acalls_of Try.func3 rfl (by kernel_rfl) (by kernel_rfl) ?_
  simp only [go_sem, reduceIte, Nat.reduceEqDiff, List.map_cons, List.map_nil, Option.map_some, Option.map_none, Bool.not_true, Bool.not_false, Option.isSome_some, Option.bind_some, bytes_eq_iff, Nat.zero_add, Nat.add_zero, Nat.mul_one, List.length_cons, List.length_nil, Nat.reduceAdd, Nat.reduceMul, Nat.reduceLeDiff, List.drop_succ_cons, List.drop_zero, List.take_succ_cons, List.take_zero, List.headD_cons, true_and, and_true, List.append_nil, List.nil_append, List.cons_append, decide_true, decide_false]
  refine ACallK.of (PcWord_spec _ _ _) ?_
  rintro _ _ rfl
  simp only [go_sem, reduceIte, Nat.reduceEqDiff, List.map_cons, List.map_nil, Option.map_some, Option.map_none, Bool.not_true, Bool.not_false, Option.isSome_some, Option.bind_some, bytes_eq_iff, Nat.zero_add, Nat.add_zero, Nat.mul_one, List.length_cons, List.length_nil, Nat.reduceAdd, Nat.reduceMul, Nat.reduceLeDiff, List.drop_succ_cons, List.drop_zero, List.take_succ_cons, List.take_zero, List.headD_cons, true_and, and_true, List.append_nil, List.nil_append, List.cons_append, decide_true, decide_false]
  refine ACallK.of (PcWord_impl _ _ _) ?_
  rintro _ _ rfl
  simp only [go_sem, reduceIte, Nat.reduceEqDiff, List.map_cons, List.map_nil, Option.map_some, Option.map_none, Bool.not_true, Bool.not_false, Option.isSome_some, Option.bind_some, bytes_eq_iff, Nat.zero_add, Nat.add_zero, Nat.mul_one, List.length_cons, List.length_nil, Nat.reduceAdd, Nat.reduceMul, Nat.reduceLeDiff, List.drop_succ_cons, List.drop_zero, List.take_succ_cons, List.take_zero, List.headD_cons, true_and, and_true, List.append_nil, List.nil_append, List.cons_append, decide_true, decide_false]
  exact retK_one rfl
end Go.Proofs.Ytiapkahjolbgmaa.Aw
