/- A row with a value counted: both packages. -/
import Derived.Test.YtipfnhfcoolhaaaFo
import Derived.Test.YtipfnhfcoolhaaaFh
namespace Go.Proofs.Ytipfnhfcoolhaaa.Aw
open Go Go.RowKit
set_option linter.unusedVariables false
set_option linter.unusedSimpArgs false
set_option maxRecDepth 100000
set_option maxHeartbeats 2000000
theorem Counted_spec (W0 : World) (cs : List AV) (r : RowD) (v : Int) (H : AH) (hr : Ob.rep W0 H cs r) : ACalls Try.prog W0 141 [.agg cs, .v (.int .i64 v)] H (fun u H' => u = .agg (rowCells (counted r v)) ∧ H' = H) := by
  refine acallw Try.func141 rfl (by kernel_rfl) (by kernel_rfl) fun hc hw => ?_
  have hr' := hr
  obtain ⟨rfl, hb⟩ := hr'
  by_cases hp : rowP r ∧ r.kind = 1 ∧ 0 ≤ v ∧ v ≤ 65535
  · have hk : rowOk r = true := decide_eq_true hp.1
    have hW : wordP r.sum := by have h := hp.1.2; rw [if_pos hp.2.1] at h; exact h.1
    unfold wordP at hW
    repeat' (first | simp -implicitDefEqProofs only [go_sem] | refine acond_dec (fun _ => ?_) (fun _ => ?_) | refine acond_ndec (fun _ => ?_) (fun _ => ?_) | refine agrd_dec (fun _ => ?_) (fun _ => ?_) | refine agrd_decf (fun _ => ?_) (fun _ => ?_) | refine agrd_ndec (fun _ => ?_) (fun _ => ?_) | refine agrd_ndecf (fun _ => ?_) (fun _ => ?_) | refine abi_len_sl' (by assumption) ?_ | refine aixs_sln (by assumption) ?_ | refine afa_sl (by assumption) ?_ | (refine aK_sl (by assumption) (by omega) ?_; first | rintro _ ⟨rfl, _⟩ | (intro _ hx; obtain ⟨_, rfl, _, _⟩ := EvD.out hx) | (intro _ hx; obtain ⟨_, _, rfl, _, _, _⟩ := JobD.out hx) | rintro _ ⟨_, rfl, _⟩) | rw [SlR.one (by assumption)] | rw [SlR.leaf (by assumption)] | simp -implicitDefEqProofs (disch := omega) only [wrap_in, u8_small, Int.tmod_eq_emod_of_nonneg, Int.tdiv_eq_ediv_of_nonneg] | refine aK_sub (by assumption) ?_ | refine aix_strn (fun _ _ => ?_) | ((with_reducible refine adraw_seq ?_ ?_ ?_); (· kernel_rfl); (· decide +kernel)) | refine ACallK.eq (RowOk_spec _ _ r _ (Ob.sub (by repeat (first | exact Sub.refl _ | assumption | refine Sub.new (by assumption) ?_ _ _ | refine Sub.kill_new (by assumption) ?_ _ _ | refine Sub.trans ?_ (by assumption))) hr)) ?_ | rw [hk] | refine ACallK.eq (l1In_ok _ _ _ _ _) ?_ | (refine ACallK.eq (l2Mod_ok _ _ _ (by simp only [inI64]; omega)) ?_) | simp -implicitDefEqProofs only [go_sem, slCells_own, aapp_own] | refine And.intro (by omega) (And.intro (by omega) ?_) | refine acond_split (fun _ => ?_) (fun _ => ?_) | refine agrd_bt (fun _ => ?_) (fun _ => ?_) | refine agrd_bf (fun _ => ?_) (fun _ => ?_) | refine retK_eq ?_ | refine retK_back (by assumption) ?_ | refine retK_eq2 ?_ | refine retK_back2 (by assumption) ?_)
    all_goals first
      | (exfalso; omega)
      | (rw [counted, if_pos hp]; rfl)
      | (simp_all [counted]; done)
  · repeat' (first | simp -implicitDefEqProofs only [go_sem] | refine acond_dec (fun _ => ?_) (fun _ => ?_) | refine acond_ndec (fun _ => ?_) (fun _ => ?_) | refine agrd_dec (fun _ => ?_) (fun _ => ?_) | refine agrd_decf (fun _ => ?_) (fun _ => ?_) | refine agrd_ndec (fun _ => ?_) (fun _ => ?_) | refine agrd_ndecf (fun _ => ?_) (fun _ => ?_) | refine abi_len_sl' (by assumption) ?_ | refine aixs_sln (by assumption) ?_ | refine afa_sl (by assumption) ?_ | (refine aK_sl (by assumption) (by omega) ?_; first | rintro _ ⟨rfl, _⟩ | (intro _ hx; obtain ⟨_, rfl, _, _⟩ := EvD.out hx) | (intro _ hx; obtain ⟨_, _, rfl, _, _, _⟩ := JobD.out hx) | rintro _ ⟨_, rfl, _⟩) | rw [SlR.one (by assumption)] | rw [SlR.leaf (by assumption)] | simp -implicitDefEqProofs (disch := omega) only [wrap_in, u8_small, Int.tmod_eq_emod_of_nonneg, Int.tdiv_eq_ediv_of_nonneg] | refine aK_sub (by assumption) ?_ | refine aix_strn (fun _ _ => ?_) | ((with_reducible refine adraw_seq ?_ ?_ ?_); (· kernel_rfl); (· decide +kernel)) | refine ACallK.eq (RowOk_spec _ _ r _ (Ob.sub (by repeat (first | exact Sub.refl _ | assumption | refine Sub.new (by assumption) ?_ _ _ | refine Sub.kill_new (by assumption) ?_ _ _ | refine Sub.trans ?_ (by assumption))) hr)) ?_ | refine ACallK.eq (l1In_ok _ _ _ _ _) ?_ | (refine ACallK.eq (l2Mod_ok _ _ _ (wrap_I _)) ?_) | (refine ACallK.eq (l2Mod_ok _ _ _ (by simp only [inI64]; omega)) ?_) | simp -implicitDefEqProofs only [go_sem, slCells_own, aapp_own] | refine And.intro (by omega) (And.intro (by omega) ?_) | refine acond_split (fun _ => ?_) (fun _ => ?_) | refine agrd_bt (fun _ => ?_) (fun _ => ?_) | refine agrd_bf (fun _ => ?_) (fun _ => ?_) | refine retK_eq ?_ | refine retK_back (by assumption) ?_ | refine retK_eq2 ?_ | refine retK_back2 (by assumption) ?_)
    all_goals (try rw [show counted r v = r from if_neg hp])
    all_goals first
      | rfl
      | (exfalso; omega)
      | (exfalso; apply hp; simp_all [rowOk]; omega)
      | (exfalso; rename_i x; have := x; apply hp; simp_all [rowOk]; omega)
      | (exfalso; apply hp; simp_all [rowOk]; done)
theorem Counted_impl (W0 : World) (cs : List AV) (r : RowD) (v : Int) (H : AH) (hr : Ob.rep W0 H cs r) : ACalls Try.prog W0 149 [.agg cs, .v (.int .i64 v)] H (fun u H' => u = .agg (rowCells (counted r v)) ∧ H' = H) := by
  refine acallw Try.func149 rfl (by kernel_rfl) (by kernel_rfl) fun hc hw => ?_
  have hr' := hr
  obtain ⟨rfl, hb⟩ := hr'
  by_cases hp : rowP r ∧ r.kind = 1 ∧ 0 ≤ v ∧ v ≤ 65535
  · have hk : rowOk r = true := decide_eq_true hp.1
    have hW : wordP r.sum := by have h := hp.1.2; rw [if_pos hp.2.1] at h; exact h.1
    unfold wordP at hW
    have hv := hp.2.2
    have e1 : (IntKind.i64.wrap (r.sum + v)).tmod 281474976710656 = (r.sum + v) % 281474976710656 := by
      rw [wrap_in _ (by omega) (by omega), Int.tmod_eq_emod_of_nonneg (by omega)]
    repeat' (first | simp -implicitDefEqProofs only [go_sem] | refine acond_dec (fun _ => ?_) (fun _ => ?_) | refine acond_ndec (fun _ => ?_) (fun _ => ?_) | refine agrd_dec (fun _ => ?_) (fun _ => ?_) | refine agrd_decf (fun _ => ?_) (fun _ => ?_) | refine agrd_ndec (fun _ => ?_) (fun _ => ?_) | refine agrd_ndecf (fun _ => ?_) (fun _ => ?_) | refine abi_len_sl' (by assumption) ?_ | refine aixs_sln (by assumption) ?_ | refine afa_sl (by assumption) ?_ | (refine aK_sl (by assumption) (by omega) ?_; first | rintro _ ⟨rfl, _⟩ | (intro _ hx; obtain ⟨_, rfl, _, _⟩ := EvD.out hx) | (intro _ hx; obtain ⟨_, _, rfl, _, _, _⟩ := JobD.out hx) | rintro _ ⟨_, rfl, _⟩) | rw [SlR.one (by assumption)] | rw [SlR.leaf (by assumption)] | simp -implicitDefEqProofs (disch := omega) only [wrap_in, u8_small, Int.tmod_eq_emod_of_nonneg, Int.tdiv_eq_ediv_of_nonneg] | refine aK_sub (by assumption) ?_ | refine aix_strn (fun _ _ => ?_) | ((with_reducible refine adraw_seq ?_ ?_ ?_); (· kernel_rfl); (· decide +kernel)) | refine ACallK.eq (RowOk_impl _ _ r _ (Ob.sub (by repeat (first | exact Sub.refl _ | assumption | refine Sub.new (by assumption) ?_ _ _ | refine Sub.kill_new (by assumption) ?_ _ _ | refine Sub.trans ?_ (by assumption))) hr)) ?_ | rw [hk] | refine ACallK.eq (within_ok _ _ _ _ _) ?_ | rw [e1] | simp -implicitDefEqProofs only [go_sem, slCells_own, aapp_own] | refine And.intro (by omega) (And.intro (by omega) ?_) | refine acond_split (fun _ => ?_) (fun _ => ?_) | refine agrd_bt (fun _ => ?_) (fun _ => ?_) | refine agrd_bf (fun _ => ?_) (fun _ => ?_) | refine retK_eq ?_ | refine retK_back (by assumption) ?_ | refine retK_eq2 ?_ | refine retK_back2 (by assumption) ?_)
    all_goals first
      | (exfalso; omega)
      | (rw [counted, if_pos hp]; rfl)
      | (simp_all [counted]; done)
  · repeat' (first | simp -implicitDefEqProofs only [go_sem] | refine acond_dec (fun _ => ?_) (fun _ => ?_) | refine acond_ndec (fun _ => ?_) (fun _ => ?_) | refine agrd_dec (fun _ => ?_) (fun _ => ?_) | refine agrd_decf (fun _ => ?_) (fun _ => ?_) | refine agrd_ndec (fun _ => ?_) (fun _ => ?_) | refine agrd_ndecf (fun _ => ?_) (fun _ => ?_) | refine abi_len_sl' (by assumption) ?_ | refine aixs_sln (by assumption) ?_ | refine afa_sl (by assumption) ?_ | (refine aK_sl (by assumption) (by omega) ?_; first | rintro _ ⟨rfl, _⟩ | (intro _ hx; obtain ⟨_, rfl, _, _⟩ := EvD.out hx) | (intro _ hx; obtain ⟨_, _, rfl, _, _, _⟩ := JobD.out hx) | rintro _ ⟨_, rfl, _⟩) | rw [SlR.one (by assumption)] | rw [SlR.leaf (by assumption)] | simp -implicitDefEqProofs (disch := omega) only [wrap_in, u8_small, Int.tmod_eq_emod_of_nonneg, Int.tdiv_eq_ediv_of_nonneg] | refine aK_sub (by assumption) ?_ | refine aix_strn (fun _ _ => ?_) | ((with_reducible refine adraw_seq ?_ ?_ ?_); (· kernel_rfl); (· decide +kernel)) | refine ACallK.eq (RowOk_impl _ _ r _ (Ob.sub (by repeat (first | exact Sub.refl _ | assumption | refine Sub.new (by assumption) ?_ _ _ | refine Sub.kill_new (by assumption) ?_ _ _ | refine Sub.trans ?_ (by assumption))) hr)) ?_ | refine ACallK.eq (within_ok _ _ _ _ _) ?_ | simp -implicitDefEqProofs only [go_sem, slCells_own, aapp_own] | refine And.intro (by omega) (And.intro (by omega) ?_) | refine acond_split (fun _ => ?_) (fun _ => ?_) | refine agrd_bt (fun _ => ?_) (fun _ => ?_) | refine agrd_bf (fun _ => ?_) (fun _ => ?_) | refine retK_eq ?_ | refine retK_back (by assumption) ?_ | refine retK_eq2 ?_ | refine retK_back2 (by assumption) ?_)
    all_goals (try rw [show counted r v = r from if_neg hp])
    all_goals first
      | rfl
      | (exfalso; omega)
      | (exfalso; apply hp; simp_all [rowOk]; omega)
      | (exfalso; rename_i x; have := x; apply hp; simp_all [rowOk]; omega)
      | (exfalso; apply hp; simp_all [rowOk]; done)
theorem counted_B {r : RowD} (h : rowB r) (v : Int) : rowB (counted r v) := by
  unfold counted
  split
  · obtain ⟨h1, h2, h3, h4, h5, h6, h7, h8, h9⟩ := h
    exact ⟨h1, h2, by simp only [inI64]; omega, h4, h5, h6, h7, h8, h9⟩
  · exact h
end Go.Proofs.Ytipfnhfcoolhaaa.Aw
