/- Is a job that of nobody at work: the reference. -/
import Derived.Test.YthcjolappblieaaFs
import Derived.Test.YthcjolappblieaaMv
namespace Go.Proofs.Ythcjolappblieaa.Aw
open Go Go.RowKit
set_option linter.unusedVariables false
set_option linter.unusedSimpArgs false
set_option maxRecDepth 100000
set_option maxHeartbeats 4000000
theorem l10Zero_ok (W0 : World) (cs : List AV) (x : JobD) (H : AH) (hx : Ob.rep W0 H cs x) (hb : x.busy = false) : ACalls Try.prog W0 113 [.agg cs] H (fun v H' => v = .v (.bool (decide (x = job0))) ∧ H' = H) := by
  refine acallw Try.func113 rfl (by kernel_rfl) (by kernel_rfl) fun hc hw => ?_
  obtain ⟨v, u, rfl, hv, hu, hj⟩ := JobD.out hx
  repeat' (first | simp -implicitDefEqProofs only [go_sem] | refine acond_dec (fun _ => ?_) (fun _ => ?_) | refine acond_ndec (fun _ => ?_) (fun _ => ?_) | refine agrd_dec (fun _ => ?_) (fun _ => ?_) | refine agrd_decf (fun _ => ?_) (fun _ => ?_) | refine agrd_ndec (fun _ => ?_) (fun _ => ?_) | refine agrd_ndecf (fun _ => ?_) (fun _ => ?_) | refine abi_len_sl' (by assumption) ?_ | refine aixs_sln (by assumption) ?_ | refine afa_sl (by assumption) ?_ | (refine aK_sl (by assumption) (by omega) ?_; first | rintro _ ⟨rfl, _⟩ | (intro _ hx; obtain ⟨_, rfl, _, _⟩ := EvD.out hx) | (intro _ hx; obtain ⟨_, _, rfl, _, _, _⟩ := JobD.out hx) | rintro _ ⟨_, rfl, _⟩) | rw [SlR.one (by assumption)] | rw [SlR.leaf (by assumption)] | simp -implicitDefEqProofs (disch := omega) only [wrap_in, u8_small, Int.tmod_eq_emod_of_nonneg, Int.tdiv_eq_ediv_of_nonneg] | refine aK_sub (by assumption) ?_ | refine aix_strn (fun _ _ => ?_) | ((with_reducible refine adraw_seq ?_ ?_ ?_); (· kernel_rfl); (· decide +kernel)) | (refine agg_eq (eqAt_Op ⟨_, _, _, _⟩ ⟨_, _, _, _⟩) ?_) | simp -implicitDefEqProofs only [go_sem, slCells_own, aapp_own] | refine And.intro (by omega) (And.intro (by omega) ?_) | refine acond_split (fun _ => ?_) (fun _ => ?_) | refine agrd_bt (fun _ => ?_) (fun _ => ?_) | refine agrd_bf (fun _ => ?_) (fun _ => ?_) | refine retK_eq ?_ | refine retK_back (by assumption) ?_ | refine retK_eq2 ?_ | refine retK_back2 (by assumption) ?_)
  all_goals first
    | (refine bv ?_; rw [decide_eq_false]; rintro rfl; simp_all [job0, op0]; done)
    | (refine bv ?_
       simp only [decide_eq_true_eq]
       constructor
       · intro h
         have hr : x.raw = [] := List.eq_nil_of_length_eq_zero (by omega)
         have hk : x.keys = [] := List.eq_nil_of_length_eq_zero (by omega)
         exact JobD.ext_iff'.2 ⟨hb, by assumption, by assumption, by assumption, by assumption, by assumption, by assumption, by assumption, by assumption, by assumption, by assumption, by assumption, by assumption, hk, hr⟩
       · rintro rfl; rfl)
    | trace_state
end Go.Proofs.Ythcjolappblieaa.Aw
