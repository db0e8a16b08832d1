/- The program's check of a job. -/
import Derived.Test.YthcjolappblieaaFc
namespace Go.Proofs.Ythcjolappblieaa.Aw
open Go Go.RowKit
set_option linter.unusedVariables false
set_option linter.unusedSimpArgs false
set_option maxRecDepth 100000
set_option maxHeartbeats 10000000
theorem jobOk_iff (j : JobD) : jobOk j = true ↔ opOk j.op = true ∧ placeOk j.op.kind j.pc ∧ countOk j ∧ ((0 ≤ j.slot ∧ j.slot ≤ 3) ∧ (0 ≤ j.what ∧ j.what ≤ 3) ∧ (0 ≤ j.e ∧ j.e ≤ 281474976710655) ∧ (0 ≤ j.k ∧ j.k ≤ 32) ∧ (j.keys.length : Int) ≤ 4 ∧ (j.raw.length : Int) ≤ 32) := by
  simp [jobOk, and_assoc]
theorem JobOk_impl (W0 : World) (cs : List AV) (j : JobD) (H : AH) (hj : Ob.rep W0 H cs j) : ACalls Try.prog W0 117 [.agg cs] H (fun v H' => v = .v (.bool (jobOk j)) ∧ H' = H) := by
  refine acallw Try.func117 rfl (by kernel_rfl) (by kernel_rfl) fun hc hw => ?_
  obtain ⟨v, u, rfl, hv, hu, hj1⟩ := JobD.out hj
  have hk := @opOk_kind j.op
  repeat' (first | simp -implicitDefEqProofs only [go_sem] | refine acond_dec (fun _ => ?_) (fun _ => ?_) | refine acond_ndec (fun _ => ?_) (fun _ => ?_) | refine agrd_dec (fun _ => ?_) (fun _ => ?_) | refine agrd_decf (fun _ => ?_) (fun _ => ?_) | refine agrd_ndec (fun _ => ?_) (fun _ => ?_) | refine agrd_ndecf (fun _ => ?_) (fun _ => ?_) | refine abi_len_sl' (by assumption) ?_ | refine aixs_sln (by assumption) ?_ | refine afa_sl (by assumption) ?_ | (refine aK_sl (by assumption) (by omega) ?_; first | rintro _ ⟨rfl, _⟩ | (intro _ hx; obtain ⟨_, rfl, _, _⟩ := EvD.out hx) | (intro _ hx; obtain ⟨_, _, rfl, _, _, _⟩ := JobD.out hx) | rintro _ ⟨_, rfl, _⟩) | rw [SlR.one (by assumption)] | rw [SlR.leaf (by assumption)] | simp -implicitDefEqProofs (disch := omega) only [wrap_in, u8_small, Int.tmod_eq_emod_of_nonneg, Int.tdiv_eq_ediv_of_nonneg] | refine aK_sub (by assumption) ?_ | refine aix_strn (fun _ _ => ?_) | ((with_reducible refine adraw_seq ?_ ?_ ?_); (· kernel_rfl); (· decide +kernel)) | refine ACallK.eq (OpOk_impl _ _ j.op _ ⟨rfl, by simp only [hj1, and_self]⟩) ?_ | refine ACallK.eq (pcOk_ok _ _ _ _) ?_ | refine ACallK.eq (within_ok _ _ _ _ _) ?_ | refine ACallK.eq (isWord_ok _ _ _) ?_ | simp -implicitDefEqProofs only [go_sem, slCells_own, aapp_own] | refine And.intro (by omega) (And.intro (by omega) ?_) | refine acond_split (fun _ => ?_) (fun _ => ?_) | refine agrd_bt (fun _ => ?_) (fun _ => ?_) | refine agrd_bf (fun _ => ?_) (fun _ => ?_) | refine retK_eq ?_ | refine retK_back (by assumption) ?_ | refine retK_eq2 ?_ | refine retK_back2 (by assumption) ?_)
  all_goals
    refine bv ?_
    rw [jobOk_iff]
    first
      | (simp only [Bool.false_eq_true, false_iff]; rintro ⟨h1, h2, h3, h4⟩; rcases hk h1 with hk | hk | hk <;> simp only [placeOk, countOk, hk] at * <;> (first | (simp_all; done) | (simp_all; omega)))
      | (have h1 : opOk j.op = true := by simp_all
         rcases hk h1 with hk | hk | hk <;> simp only [placeOk, countOk, hk] at * <;> (first | (simp_all; done) | (simp_all; omega)))
end Go.Proofs.Ythcjolappblieaa.Aw
