/- Exact laws: the program answers as the reference. -/
import Derived.Test.YthcjolappblieaaFgi
import Derived.Test.YthcjolappblieaaAy3
import Derived.Test.YthcjolappblieaaHWorld
namespace Go.Proofs.Ythcjolappblieaa.Aw
open Go Go.RowKit
set_option linter.unusedVariables false
set_option linter.unusedSimpArgs false
set_option maxRecDepth 100000
set_option maxHeartbeats 2000000
theorem ExactWorldOk_law (W0 : World) (c_wd : List AV) (wd : WorldD) (H : AH) (hwd : Ob.rep W0 H c_wd wd) : ACalls Try.prog W0 8 [.agg c_wd] H (fun v _ => v = .v (.bool true)) := by
  refine acallw Try.func8 rfl (by kernel_rfl) (by kernel_rfl) fun hc hw => ?_
  have hx' := hwd; obtain ⟨_, _, _, _, rfl, _, _, _, _, _, _⟩ := hx'
  repeat' (first | simp -implicitDefEqProofs only [go_sem] | refine acond_decF (by omega) ?_ | refine acond_dec (fun _ => ?_) (fun _ => ?_) | refine acond_ndec (fun _ => ?_) (fun _ => ?_) | refine agrd_dec (fun _ => ?_) (fun _ => ?_) | refine agrd_decf (fun _ => ?_) (fun _ => ?_) | refine agrd_ndec (fun _ => ?_) (fun _ => ?_) | refine agrd_ndecf (fun _ => ?_) (fun _ => ?_) | refine abi_len_sl' (by assumption) ?_ | refine aixs_sln (by assumption) ?_ | refine afa_sl (by assumption) ?_ | (refine aK_sl (by assumption) (by omega) ?_; first | rintro _ ⟨rfl, _⟩ | (intro _ hx; obtain ⟨_, rfl, _, _⟩ := EvD.out hx) | (intro _ hx; obtain ⟨_, _, rfl, _, _, _⟩ := JobD.out hx) | rintro _ ⟨_, rfl, _⟩) | rw [SlR.one (by assumption)] | rw [SlR.leaf (by assumption)] | simp -implicitDefEqProofs (disch := omega) only [wrap_in, u8_small, Int.tmod_eq_emod_of_nonneg, Int.tdiv_eq_ediv_of_nonneg] | refine aK_sub (by assumption) ?_ | refine aix_strn (fun _ _ => ?_) | ((with_reducible refine adraw_seq ?_ ?_ ?_); (· kernel_rfl); (· decide +kernel)) | (refine retK_one ?_; rfl) | (refine ACallK.szk (szWorld_ok _ _ wd _ _ (Ob.sub' (by assumption)) (by omega) (by omega)) (fun _ => ?_) (fun _ => ?_)) | (refine newK (toWorld_new _ _ wd _ (Ob.sub' (by assumption)) (by omega)) ?_; intro _ _ hs _ hx; have hn := hs.1; (try simp only [go_sem] at hn); have hx' := hx; obtain ⟨_, _, _, _, rfl, _, _, _, _, _, _⟩ := hx') | refine ACallK.eq (eqWorld_ok _ _ _ wd wd _ (Ob.sub' (by assumption)) (Ob.sub' (by assumption))) ?_ | refine ACallK.eq (WorldOk_spec _ _ wd _ (Ob.sub' (by assumption))) ?_ | refine ACallK.eq (WorldOk_impl _ _ wd _ (Ob.sub' (by assumption))) ?_ | simp -implicitDefEqProofs (disch := omega) only [if_neg] | (with_reducible refine And.intro ?_ ?_) | simp -implicitDefEqProofs only [go_sem, slCells_own, aapp_own] | ((with_reducible refine adraw_plan [(0, []), (1, []), (2, [0]), (3, []), (4, [])] ?_ ?_ ?_); (· kernel_rfl); (· decide +kernel)) | refine And.intro (by omega) (And.intro (by omega) ?_) | refine acond_split (fun _ => ?_) (fun _ => ?_) | refine agrd_bt (fun _ => ?_) (fun _ => ?_) | refine agrd_bf (fun _ => ?_) (fun _ => ?_) | refine retK_eq ?_ | refine retK_back (by assumption) ?_ | refine retK_eq2 ?_ | refine retK_back2 (by assumption) ?_)
end Go.Proofs.Ythcjolappblieaa.Aw
