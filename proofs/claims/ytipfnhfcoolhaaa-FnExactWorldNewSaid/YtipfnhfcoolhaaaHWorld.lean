/- The helpers of the laws at World: sizes, copies, comparisons. Printed by gen4.py. -/
import Derived.Test.YtipfnhfcoolhaaaHJob
import Derived.Test.YtipfnhfcoolhaaaHQueue
import Derived.Test.YtipfnhfcoolhaaaHEv
namespace Go.Proofs.Ytipfnhfcoolhaaa.Aw
open Go Go.RowKit
set_option linter.unusedVariables false
set_option linter.unusedSimpArgs false
set_option maxRecDepth 100000
set_option maxHeartbeats 2000000
attribute [-go_sem] wr_eq
theorem eqWorld_ok (W0 : World) (cs ds : List AV) (x y : WorldD) (H : AH) (hx : Ob.rep W0 H cs x) (hy : Ob.rep W0 H ds y) : ACalls Try.prog W0 13 [.agg cs, .agg ds] H (fun v H' => v = .v (.bool (decide (x = y))) ∧ H' = H) := by
  obtain ⟨v_cells, v_jobs, v_todo, v_log, rfl, f0, f1, f2, f3, f4, f5⟩ := hx
  obtain ⟨v_cells', v_jobs', v_todo', v_log', rfl, f0', f1', f2', f3', f4', f5'⟩ := hy
  refine acallw Try.func13 rfl (by kernel_rfl) (by kernel_rfl) fun hc hw => ?_
  repeat' (first | simp -implicitDefEqProofs only [go_sem] | refine acond_dec (fun _ => ?_) (fun _ => ?_) | refine acond_ndec (fun _ => ?_) (fun _ => ?_) | refine agrd_dec (fun _ => ?_) (fun _ => ?_) | refine agrd_decf (fun _ => ?_) (fun _ => ?_) | refine agrd_ndec (fun _ => ?_) (fun _ => ?_) | refine agrd_ndecf (fun _ => ?_) (fun _ => ?_) | refine abi_len_sl' (by assumption) ?_ | refine aixs_sln (by assumption) ?_ | refine afa_sl (by assumption) ?_ | (refine aK_sl (by assumption) (by omega) ?_; first | rintro _ ⟨rfl, _⟩ | (intro _ hx; obtain ⟨_, rfl, _, _⟩ := EvD.out hx) | (intro _ hx; obtain ⟨_, _, rfl, _, _, _⟩ := JobD.out hx) | rintro _ ⟨_, rfl, _⟩) | rw [SlR.one (by assumption)] | rw [SlR.leaf (by assumption)] | simp -implicitDefEqProofs (disch := omega) only [wrap_in, u8_small, Int.tmod_eq_emod_of_nonneg, Int.tdiv_eq_ediv_of_nonneg] | refine aK_sub (by assumption) ?_ | refine aix_strn (fun _ _ => ?_) | ((with_reducible refine adraw_seq ?_ ?_ ?_); (· kernel_rfl); (· decide +kernel)) | refine ACallK.eq (eqIntS_ok _ _ _ x.cells y.cells _ (SlR.sub' f0) (SlR.sub' f0')) ?_ | refine ACallK.eq (eqJobS_ok _ _ _ x.jobs y.jobs _ (SlR.sub' f1) (SlR.sub' f1')) ?_ | refine ACallK.eq (eqQueueS_ok _ _ _ x.todo y.todo _ (SlR.sub' f2) (SlR.sub' f2')) ?_ | refine ACallK.eq (eqEvS_ok _ _ _ x.log y.log _ (SlR.sub' f3) (SlR.sub' f3')) ?_ | simp -implicitDefEqProofs only [go_sem, slCells_own, aapp_own] | refine And.intro (by omega) (And.intro (by omega) ?_) | refine acond_split (fun _ => ?_) (fun _ => ?_) | refine agrd_bt (fun _ => ?_) (fun _ => ?_) | refine agrd_bf (fun _ => ?_) (fun _ => ?_) | refine retK_eq ?_ | refine retK_back (by assumption) ?_ | refine retK_eq2 ?_ | refine retK_back2 (by assumption) ?_)
  all_goals first | (rw [decide_eq_false (fun h => by subst h; exact absurd rfl (by assumption))]; done) | (rw [decide_eq_false (fun h => by subst h; exact ne_of_nbeq (by assumption))]; done) | (rw [decide_eq_true (WorldD.ext_iff'.2 (by (repeat' (with_reducible refine And.intro ?_ ?_)) <;> first | assumption | exact eq_of_nbeq (by assumption)))]; done)
end Go.Proofs.Ytipfnhfcoolhaaa.Aw
