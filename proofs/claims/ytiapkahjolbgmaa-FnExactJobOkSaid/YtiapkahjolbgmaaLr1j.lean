/- Exact laws: the program answers as the reference. -/
import Derived.Test.YtiapkahjolbgmaaFj
import Derived.Test.YtiapkahjolbgmaaAy3
import Derived.Test.YtiapkahjolbgmaaDb2
namespace Go.Proofs.Ytiapkahjolbgmaa.Aw
open Go Go.RowKit
set_option linter.unusedVariables false
set_option linter.unusedSimpArgs false
set_option maxRecDepth 100000
set_option maxHeartbeats 2000000
theorem ExactJobOk_law (W0 : World) (c_j : List AV) (j : JobD) (H : AH) (hj : Ob.rep W0 H c_j j) : ACalls Try.prog W0 14 [.agg c_j] H (fun v _ => v = .v (.bool true)) := by
  refine acallw Try.func14 rfl (by kernel_rfl) (by kernel_rfl) fun hc hw => ?_
  have hx' := hj; obtain ⟨_, _, rfl, _, _, _⟩ := JobD.out hx'
  repeat' (first | simp -implicitDefEqProofs only [go_sem] | refine acond_decF (by omega) ?_ | refine acond_dec (fun _ => ?_) (fun _ => ?_) | refine acond_ndec (fun _ => ?_) (fun _ => ?_) | refine agrd_dec (fun _ => ?_) (fun _ => ?_) | refine agrd_decf (fun _ => ?_) (fun _ => ?_) | refine abi_len_sl' (by assumption) ?_ | refine aixs_sln (by assumption) ?_ | refine afa_sl (by assumption) ?_ | (refine aK_sl (by assumption) (by omega) ?_; first | rintro _ ⟨rfl, _⟩ | (intro _ hx; obtain ⟨_, rfl, _, _⟩ := EvD.out hx) | (intro _ hx; obtain ⟨_, _, rfl, _, _, _⟩ := JobD.out hx) | rintro _ ⟨_, rfl, _⟩) | rw [SlR.one (by assumption)] | rw [SlR.leaf (by assumption)] | rw [Go.IntWalk.i64_in _ (by omega)] | refine aK_sub (by assumption) ?_ | refine aix_strn (fun _ _ => ?_) | ((with_reducible refine adraw_seq ?_ ?_ ?_); (· kernel_rfl); (· decide +kernel)) | (refine retK_one ?_; rfl) | (refine ACallK.szk (szJob_ok _ _ j _ _ (Ob.sub' (by assumption)) (by omega) (by omega)) (fun _ => ?_) (fun _ => ?_)) | (refine toK (toJob_ok _ _ j _ (Ob.sub' (by assumption)) (by omega)) ?_; intro _ _ hs _ hx; have hn := hs.1; (try simp only [go_sem] at hn); have hx' := hx; obtain ⟨_, _, rfl, _, _, _⟩ := JobD.out hx') | refine ACallK.eq (eqJob_ok _ _ _ j j _ (Ob.sub' (by assumption)) (Ob.sub' (by assumption))) ?_ | refine ACallK.eq (JobOk_spec _ _ j _ (Ob.sub' (by assumption))) ?_ | refine ACallK.eq (JobOk_impl _ _ j _ (Ob.sub' (by assumption))) ?_ | simp -implicitDefEqProofs (disch := omega) only [if_neg] | (with_reducible refine And.intro ?_ ?_) | ((with_reducible refine adraw_plan [(0, []), (1, []), (2, [0]), (3, []), (4, [])] ?_ ?_ ?_); (· kernel_rfl); (· decide +kernel)) | refine And.intro (by omega) (And.intro (by omega) ?_) | refine acond_split (fun _ => ?_) (fun _ => ?_) | refine agrd_bt (fun _ => ?_) (fun _ => ?_) | refine agrd_bf (fun _ => ?_) (fun _ => ?_) | refine retK_eq ?_ | refine retK_back (by assumption) ?_)
end Go.Proofs.Ytiapkahjolbgmaa.Aw
