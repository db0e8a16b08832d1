/- Are worlds the same: both packages, part 3. -/
import Derived.Test.YthcjolappblieaaAy3
import Derived.Test.YthcjolappblieaaFq
import Derived.Test.YthcjolappblieaaFs1
import Derived.Test.YthcjolappblieaaFs2
import Derived.Test.YthcjolappblieaaFs3
namespace Go.Proofs.Ythcjolappblieaa.Aw
open Go Go.RowKit
set_option linter.unusedVariables false
set_option linter.unusedSimpArgs false
set_option maxRecDepth 100000
set_option maxHeartbeats 2000000
theorem SameWorld_spec (W0 : World) (cs : List AV) (x : WorldD) (ds : List AV) (y : WorldD) (H : AH) (hx : Ob.rep W0 H cs x) (hy : Ob.rep W0 H ds y) : ACalls Try.prog W0 16 [.agg cs, .agg ds] H (fun v H' => v = .v (.bool (decide (x = y))) ∧ H' = H) := by
  refine acallw Try.func16 rfl (by kernel_rfl) (by kernel_rfl) fun hc hw => ?_
  obtain ⟨vc, vj, vt, vl, rfl, h1, h2, h3, h4, h5, h6⟩ := hx
  obtain ⟨uc, uj, ut, ul, rfl, i1, i2, i3, i4, i5, i6⟩ := hy
  have b2 := h2.2.1; simp only [big] at b2
  have b3 := h3.2.1; simp only [big] at b3
  have b4 := h4.2.1; simp only [big] at b4
  repeat' (first | simp -implicitDefEqProofs only [go_sem] | refine acond_dec (fun _ => ?_) (fun _ => ?_) | refine acond_ndec (fun _ => ?_) (fun _ => ?_) | refine agrd_dec (fun _ => ?_) (fun _ => ?_) | refine agrd_decf (fun _ => ?_) (fun _ => ?_) | refine agrd_ndec (fun _ => ?_) (fun _ => ?_) | refine agrd_ndecf (fun _ => ?_) (fun _ => ?_) | refine abi_len_sl' (by assumption) ?_ | refine aixs_sln (by assumption) ?_ | refine afa_sl (by assumption) ?_ | (refine aK_sl (by assumption) (by omega) ?_; first | rintro _ ⟨rfl, _⟩ | (intro _ hx; obtain ⟨_, rfl, _, _⟩ := EvD.out hx) | (intro _ hx; obtain ⟨_, _, rfl, _, _, _⟩ := JobD.out hx) | rintro _ ⟨_, rfl, _⟩) | rw [SlR.one (by assumption)] | rw [SlR.leaf (by assumption)] | simp -implicitDefEqProofs (disch := omega) only [wrap_in, u8_small, Int.tmod_eq_emod_of_nonneg, Int.tdiv_eq_ediv_of_nonneg] | refine aK_sub (by assumption) ?_ | refine aix_strn (fun _ _ => ?_) | ((with_reducible refine adraw_seq ?_ ?_ ?_); (· kernel_rfl); (· decide +kernel)) | refine ACallK.eq (SameCells_spec _ _ _ x.cells y.cells _ (SlR.sub' (by assumption)) (SlR.sub' (by assumption))) ?_ | simp -implicitDefEqProofs only [go_sem, slCells_own, aapp_own] | refine And.intro (by omega) (And.intro (by omega) ?_) | refine acond_split (fun _ => ?_) (fun _ => ?_) | refine agrd_bt (fun _ => ?_) (fun _ => ?_) | refine agrd_bf (fun _ => ?_) (fun _ => ?_) | refine retK_eq ?_ | refine retK_back (by assumption) ?_ | refine retK_eq2 ?_ | refine retK_back2 (by assumption) ?_)
  all_goals first
    | (refine bv ?_; rw [decide_eq_false]; rintro rfl; contradiction)
    | skip
  rename_i e1 e2 e3 e4 e5 e6
  refine acode_while (fun i : Nat => [(2, .ptr H.nxt 0), (3, .ptr (H.nxt + 1) 0), (5, .v (.int .i64 i))]) (fun i H' => H' = (H.new [vc, vj, vt, vl, .v (.int .i64 x.serial), .v (.int .i64 x.now)] 6).new [uc, uj, ut, ul, .v (.int .i64 y.serial), .v (.int .i64 y.now)] 6 ∧ i ≤ x.jobs.length ∧ EqTo x.jobs y.jobs i) (fun i => x.jobs.length - i) 0 ⟨rfl, by omega, EqTo.zero _ _⟩ ?_
  rintro i _ ⟨rfl, hi, hP⟩
  repeat' (first | simp -implicitDefEqProofs only [go_sem] | refine acond_dec (fun _ => ?_) (fun _ => ?_) | refine acond_ndec (fun _ => ?_) (fun _ => ?_) | refine agrd_dec (fun _ => ?_) (fun _ => ?_) | refine agrd_decf (fun _ => ?_) (fun _ => ?_) | refine agrd_ndec (fun _ => ?_) (fun _ => ?_) | refine agrd_ndecf (fun _ => ?_) (fun _ => ?_) | refine abi_len_sl' (by assumption) ?_ | refine aixs_sln (by assumption) ?_ | refine afa_sl (by assumption) ?_ | (refine aK_sl (by assumption) (by omega) ?_; first | rintro _ ⟨rfl, _⟩ | (intro _ hx; obtain ⟨_, rfl, _, _⟩ := EvD.out hx) | (intro _ hx; obtain ⟨_, _, rfl, _, _, _⟩ := JobD.out hx) | rintro _ ⟨_, rfl, _⟩) | rw [SlR.one (by assumption)] | rw [SlR.leaf (by assumption)] | simp -implicitDefEqProofs (disch := omega) only [wrap_in, u8_small, Int.tmod_eq_emod_of_nonneg, Int.tdiv_eq_ediv_of_nonneg] | refine aK_sub (by assumption) ?_ | refine aix_strn (fun _ _ => ?_) | ((with_reducible refine adraw_seq ?_ ?_ ?_); (· kernel_rfl); (· decide +kernel)) | refine ACallK.eq (l10SameJob_ok _ _ _ x.jobs[i] y.jobs[i] _ (Ob.sub' (by assumption)) (Ob.sub' (by assumption))) ?_ | simp -implicitDefEqProofs only [go_sem, slCells_own, aapp_own] | refine And.intro (by omega) (And.intro (by omega) ?_) | refine acond_split (fun _ => ?_) (fun _ => ?_) | refine agrd_bt (fun _ => ?_) (fun _ => ?_) | refine agrd_bf (fun _ => ?_) (fun _ => ?_) | refine retK_eq ?_ | refine retK_back (by assumption) ?_ | refine retK_eq2 ?_ | refine retK_back2 (by assumption) ?_)
  all_goals first
    | (refine bv ?_; rw [decide_eq_false]; rintro rfl; contradiction)
    | exact back (i + 1) ⟨by omega, hP.succ (by omega) (by omega) (by assumption)⟩
    | skip
  have e7 := hP.done (by omega) (by omega)
  refine acode_while (fun i : Nat => [(2, .ptr H.nxt 0), (3, .ptr (H.nxt + 1) 0), (6, .v (.int .i64 i))]) (fun i H' => H' = (H.new [vc, vj, vt, vl, .v (.int .i64 x.serial), .v (.int .i64 x.now)] 6).new [uc, uj, ut, ul, .v (.int .i64 y.serial), .v (.int .i64 y.now)] 6 ∧ i ≤ x.todo.length ∧ EqTo x.todo y.todo i) (fun i => x.todo.length - i) 0 ⟨rfl, by omega, EqTo.zero _ _⟩ ?_
  clear hP
  rintro i _ ⟨rfl, hi, hP⟩
  repeat' (first | simp -implicitDefEqProofs only [go_sem] | refine acond_dec (fun _ => ?_) (fun _ => ?_) | refine acond_ndec (fun _ => ?_) (fun _ => ?_) | refine agrd_dec (fun _ => ?_) (fun _ => ?_) | refine agrd_decf (fun _ => ?_) (fun _ => ?_) | refine agrd_ndec (fun _ => ?_) (fun _ => ?_) | refine agrd_ndecf (fun _ => ?_) (fun _ => ?_) | refine abi_len_sl' (by assumption) ?_ | refine aixs_sln (by assumption) ?_ | refine afa_sl (by assumption) ?_ | (refine aK_sl (by assumption) (by omega) ?_; first | rintro _ ⟨rfl, _⟩ | (intro _ hx; obtain ⟨_, rfl, _, _⟩ := EvD.out hx) | (intro _ hx; obtain ⟨_, _, rfl, _, _, _⟩ := JobD.out hx) | rintro _ ⟨_, rfl, _⟩) | rw [SlR.one (by assumption)] | rw [SlR.leaf (by assumption)] | simp -implicitDefEqProofs (disch := omega) only [wrap_in, u8_small, Int.tmod_eq_emod_of_nonneg, Int.tdiv_eq_ediv_of_nonneg] | refine aK_sub (by assumption) ?_ | refine aix_strn (fun _ _ => ?_) | ((with_reducible refine adraw_seq ?_ ?_ ?_); (· kernel_rfl); (· decide +kernel)) | simp -implicitDefEqProofs only [go_sem, slCells_own, aapp_own] | refine And.intro (by omega) (And.intro (by omega) ?_) | refine acond_split (fun _ => ?_) (fun _ => ?_) | refine agrd_bt (fun _ => ?_) (fun _ => ?_) | refine agrd_bf (fun _ => ?_) (fun _ => ?_) | refine retK_eq ?_ | refine retK_back (by assumption) ?_ | refine retK_eq2 ?_ | refine retK_back2 (by assumption) ?_)
  all_goals first
    | (refine bv ?_; rw [decide_eq_false]; rintro rfl; contradiction)
    | skip
  · rename_i w1 r1 w2 r2 hl
    have b5 := r1.2.1; simp only [big] at b5
    refine acode_while (fun k : Nat => [(2, .ptr H.nxt 0), (3, .ptr (H.nxt + 1) 0), (6, .v (.int .i64 i)), (7, .v (.int .i64 k))]) (fun k H' => H' = (H.new [vc, vj, vt, vl, .v (.int .i64 x.serial), .v (.int .i64 x.now)] 6).new [uc, uj, ut, ul, .v (.int .i64 y.serial), .v (.int .i64 y.now)] 6 ∧ k ≤ x.todo[i].ops.length ∧ EqTo x.todo[i].ops y.todo[i].ops k) (fun k => x.todo[i].ops.length - k) 0 ⟨rfl, by omega, EqTo.zero _ _⟩ ?_
    rintro k _ ⟨rfl, hk, hQ⟩
    repeat' (first | simp -implicitDefEqProofs only [go_sem] | refine acond_dec (fun _ => ?_) (fun _ => ?_) | refine acond_ndec (fun _ => ?_) (fun _ => ?_) | refine agrd_dec (fun _ => ?_) (fun _ => ?_) | refine agrd_decf (fun _ => ?_) (fun _ => ?_) | refine agrd_ndec (fun _ => ?_) (fun _ => ?_) | refine agrd_ndecf (fun _ => ?_) (fun _ => ?_) | refine abi_len_sl' (by assumption) ?_ | refine aixs_sln (by assumption) ?_ | refine afa_sl (by assumption) ?_ | (refine aK_sl (by assumption) (by omega) ?_; first | rintro _ ⟨rfl, _⟩ | (intro _ hx; obtain ⟨_, rfl, _, _⟩ := EvD.out hx) | (intro _ hx; obtain ⟨_, _, rfl, _, _, _⟩ := JobD.out hx) | rintro _ ⟨_, rfl, _⟩) | rw [SlR.one (by assumption)] | rw [SlR.leaf (by assumption)] | simp -implicitDefEqProofs (disch := omega) only [wrap_in, u8_small, Int.tmod_eq_emod_of_nonneg, Int.tdiv_eq_ediv_of_nonneg] | refine aK_sub (by assumption) ?_ | refine aix_strn (fun _ _ => ?_) | ((with_reducible refine adraw_seq ?_ ?_ ?_); (· kernel_rfl); (· decide +kernel)) | (refine agg_ne (eqAt_Op x.todo[i].ops[k] y.todo[i].ops[k]) ?_) | simp -implicitDefEqProofs only [go_sem, slCells_own, aapp_own] | refine And.intro (by omega) (And.intro (by omega) ?_) | refine acond_split (fun _ => ?_) (fun _ => ?_) | refine agrd_bt (fun _ => ?_) (fun _ => ?_) | refine agrd_bf (fun _ => ?_) (fun _ => ?_) | refine retK_eq ?_ | refine retK_back (by assumption) ?_ | refine retK_eq2 ?_ | refine retK_back2 (by assumption) ?_)
    all_goals first
      | (refine bv ?_; rw [decide_eq_false]; rintro rfl; contradiction)
      | exact back (k + 1) ⟨by omega, hQ.succ (by omega) (by omega) (by assumption)⟩
      | exact back (i + 1) ⟨by omega, hP.succ (by omega) (by omega) (QueueD.ext_iff'.2 (hQ.done (by omega) (by omega)))⟩
  have e8 := hP.done (by omega) (by omega)
  refine acode_while (fun i : Nat => [(2, .ptr H.nxt 0), (3, .ptr (H.nxt + 1) 0), (8, .v (.int .i64 i))]) (fun i H' => H' = (H.new [vc, vj, vt, vl, .v (.int .i64 x.serial), .v (.int .i64 x.now)] 6).new [uc, uj, ut, ul, .v (.int .i64 y.serial), .v (.int .i64 y.now)] 6 ∧ i ≤ x.log.length ∧ EqTo x.log y.log i) (fun i => x.log.length - i) 0 ⟨rfl, by omega, EqTo.zero _ _⟩ ?_
  clear hP
  rintro i _ ⟨rfl, hi, hP⟩
  repeat' (first | simp -implicitDefEqProofs only [go_sem] | refine acond_dec (fun _ => ?_) (fun _ => ?_) | refine acond_ndec (fun _ => ?_) (fun _ => ?_) | refine agrd_dec (fun _ => ?_) (fun _ => ?_) | refine agrd_decf (fun _ => ?_) (fun _ => ?_) | refine agrd_ndec (fun _ => ?_) (fun _ => ?_) | refine agrd_ndecf (fun _ => ?_) (fun _ => ?_) | refine abi_len_sl' (by assumption) ?_ | refine aixs_sln (by assumption) ?_ | refine afa_sl (by assumption) ?_ | (refine aK_sl (by assumption) (by omega) ?_; first | rintro _ ⟨rfl, _⟩ | (intro _ hx; obtain ⟨_, rfl, _, _⟩ := EvD.out hx) | (intro _ hx; obtain ⟨_, _, rfl, _, _, _⟩ := JobD.out hx) | rintro _ ⟨_, rfl, _⟩) | rw [SlR.one (by assumption)] | rw [SlR.leaf (by assumption)] | simp -implicitDefEqProofs (disch := omega) only [wrap_in, u8_small, Int.tmod_eq_emod_of_nonneg, Int.tdiv_eq_ediv_of_nonneg] | refine aK_sub (by assumption) ?_ | refine aix_strn (fun _ _ => ?_) | ((with_reducible refine adraw_seq ?_ ?_ ?_); (· kernel_rfl); (· decide +kernel)) | refine ACallK.eq (l10SameEv_ok _ _ _ x.log[i] y.log[i] _ (Ob.sub' (by assumption)) (Ob.sub' (by assumption))) ?_ | simp -implicitDefEqProofs only [go_sem, slCells_own, aapp_own] | refine And.intro (by omega) (And.intro (by omega) ?_) | refine acond_split (fun _ => ?_) (fun _ => ?_) | refine agrd_bt (fun _ => ?_) (fun _ => ?_) | refine agrd_bf (fun _ => ?_) (fun _ => ?_) | refine retK_eq ?_ | refine retK_back (by assumption) ?_ | refine retK_eq2 ?_ | refine retK_back2 (by assumption) ?_)
  all_goals first
    | (refine bv ?_; rw [decide_eq_false]; rintro rfl; contradiction)
    | exact back (i + 1) ⟨by omega, hP.succ (by omega) (by omega) (by assumption)⟩
    | skip
  have e9 := hP.done (by omega) (by omega)
  rw [decide_eq_true (WorldD.ext_iff'.2 ⟨e1, e7, e8, e9, e5, e6⟩)]
end Go.Proofs.Ythcjolappblieaa.Aw
