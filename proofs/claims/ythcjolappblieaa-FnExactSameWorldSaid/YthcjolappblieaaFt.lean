/- Are worlds the same: both packages, part 2. -/
import Derived.Test.YthcjolappblieaaAy3
import Derived.Test.YthcjolappblieaaFq
import Derived.Test.YthcjolappblieaaFs1
import Derived.Test.YthcjolappblieaaFs2
import Derived.Test.YthcjolappblieaaFs3
namespace Go.Proofs.Ythcjolappblieaa.Aw
open Go Go.RowKit
set_option linter.unusedVariables false
set_option linter.unusedSimpArgs false
set_option maxRecDepth 100000
set_option maxHeartbeats 2000000
theorem SameWorld1_ok (W0 : World) (cs ds : List AV) (x y : QueueD) (H : AH) (hx : Ob.rep W0 H cs x) (hy : Ob.rep W0 H ds y) : ACalls Try.prog W0 74 [.agg cs, .agg ds] H (fun v H' => v = .v (.bool (decide (x = y))) ∧ H' = H) := by
  refine acallw Try.func74 rfl (by kernel_rfl) (by kernel_rfl) fun hc hw => ?_
  obtain ⟨v, rfl, hv⟩ := hx
  obtain ⟨v2, rfl, hv2⟩ := hy
  repeat' (first | simp -implicitDefEqProofs only [go_sem] | refine acond_dec (fun _ => ?_) (fun _ => ?_) | refine acond_ndec (fun _ => ?_) (fun _ => ?_) | refine agrd_dec (fun _ => ?_) (fun _ => ?_) | refine agrd_decf (fun _ => ?_) (fun _ => ?_) | refine agrd_ndec (fun _ => ?_) (fun _ => ?_) | refine agrd_ndecf (fun _ => ?_) (fun _ => ?_) | refine abi_len_sl' (by assumption) ?_ | refine aixs_sln (by assumption) ?_ | refine afa_sl (by assumption) ?_ | (refine aK_sl (by assumption) (by omega) ?_; first | rintro _ ⟨rfl, _⟩ | (intro _ hx; obtain ⟨_, rfl, _, _⟩ := EvD.out hx) | (intro _ hx; obtain ⟨_, _, rfl, _, _, _⟩ := JobD.out hx) | rintro _ ⟨_, rfl, _⟩) | rw [SlR.one (by assumption)] | rw [SlR.leaf (by assumption)] | simp -implicitDefEqProofs (disch := omega) only [wrap_in, u8_small, Int.tmod_eq_emod_of_nonneg, Int.tdiv_eq_ediv_of_nonneg] | refine aK_sub (by assumption) ?_ | refine aix_strn (fun _ _ => ?_) | ((with_reducible refine adraw_seq ?_ ?_ ?_); (· kernel_rfl); (· decide +kernel)) | refine ACallK.eq (EqualOp_ok _ _ _ x.ops y.ops _ (SlR.sub' (by assumption)) (SlR.sub' (by assumption))) ?_ | simp -implicitDefEqProofs only [go_sem, slCells_own, aapp_own] | refine And.intro (by omega) (And.intro (by omega) ?_) | refine acond_split (fun _ => ?_) (fun _ => ?_) | refine agrd_bt (fun _ => ?_) (fun _ => ?_) | refine agrd_bf (fun _ => ?_) (fun _ => ?_) | refine retK_eq ?_ | refine retK_back (by assumption) ?_ | refine retK_eq2 ?_ | refine retK_back2 (by assumption) ?_)
  all_goals (refine bv ?_; simp_all [QueueD.ext_iff'])
theorem SameWorld_impl (W0 : World) (cs : List AV) (x : WorldD) (ds : List AV) (y : WorldD) (H : AH) (hx : Ob.rep W0 H cs x) (hy : Ob.rep W0 H ds y) : ACalls Try.prog W0 18 [.agg cs, .agg ds] H (fun v H' => v = .v (.bool (decide (x = y))) ∧ H' = H) := by
  refine acallw Try.func18 rfl (by kernel_rfl) (by kernel_rfl) fun hc hw => ?_
  obtain ⟨vc, vj, vt, vl, rfl, h1, h2, h3, h4, h5, h6⟩ := hx
  obtain ⟨uc, uj, ut, ul, rfl, i1, i2, i3, i4, i5, i6⟩ := hy
  repeat' (first | simp -implicitDefEqProofs only [go_sem] | refine acond_dec (fun _ => ?_) (fun _ => ?_) | refine acond_ndec (fun _ => ?_) (fun _ => ?_) | refine agrd_dec (fun _ => ?_) (fun _ => ?_) | refine agrd_decf (fun _ => ?_) (fun _ => ?_) | refine agrd_ndec (fun _ => ?_) (fun _ => ?_) | refine agrd_ndecf (fun _ => ?_) (fun _ => ?_) | refine abi_len_sl' (by assumption) ?_ | refine aixs_sln (by assumption) ?_ | refine afa_sl (by assumption) ?_ | (refine aK_sl (by assumption) (by omega) ?_; first | rintro _ ⟨rfl, _⟩ | (intro _ hx; obtain ⟨_, rfl, _, _⟩ := EvD.out hx) | (intro _ hx; obtain ⟨_, _, rfl, _, _, _⟩ := JobD.out hx) | rintro _ ⟨_, rfl, _⟩) | rw [SlR.one (by assumption)] | rw [SlR.leaf (by assumption)] | simp -implicitDefEqProofs (disch := omega) only [wrap_in, u8_small, Int.tmod_eq_emod_of_nonneg, Int.tdiv_eq_ediv_of_nonneg] | refine aK_sub (by assumption) ?_ | refine aix_strn (fun _ _ => ?_) | ((with_reducible refine adraw_seq ?_ ?_ ?_); (· kernel_rfl); (· decide +kernel)) | refine ACallK.eq (SameCells_impl _ _ _ x.cells y.cells _ (SlR.sub' (by assumption)) (SlR.sub' (by assumption))) ?_ | refine ACallK.eq (EqualFuncJob_ok _ _ _ x.jobs y.jobs _ _ (SlR.sub' (by assumption)) (SlR.sub' (by assumption)) (fun cs ds x y H hx hy => sameJob_ok _ cs ds x y H hx hy)) ?_ | refine ACallK.eq (EqualFuncQueue_ok _ _ _ x.todo y.todo _ _ (SlR.sub' (by assumption)) (SlR.sub' (by assumption)) (fun cs ds x y H hx hy => SameWorld1_ok _ cs ds x y H hx hy)) ?_ | refine ACallK.eq (EqualFuncEv_ok _ _ _ x.log y.log _ _ (SlR.sub' (by assumption)) (SlR.sub' (by assumption)) (fun cs ds x y H hx hy => sameEv_ok _ cs ds x y H hx hy)) ?_ | simp -implicitDefEqProofs only [go_sem, slCells_own, aapp_own] | refine And.intro (by omega) (And.intro (by omega) ?_) | refine acond_split (fun _ => ?_) (fun _ => ?_) | refine agrd_bt (fun _ => ?_) (fun _ => ?_) | refine agrd_bf (fun _ => ?_) (fun _ => ?_) | refine retK_eq ?_ | refine retK_back (by assumption) ?_ | refine retK_eq2 ?_ | refine retK_back2 (by assumption) ?_)
  all_goals first
    | (refine bv ?_; rw [decide_eq_false]; rintro rfl; contradiction)
    | (refine bv ?_; simp only [decide_eq_true_eq]; exact ⟨fun h => WorldD.ext_iff'.2 ⟨by assumption, by assumption, by assumption, by assumption, by assumption, h⟩, fun h => by rw [h]⟩)
    | trace_state
end Go.Proofs.Ythcjolappblieaa.Aw
