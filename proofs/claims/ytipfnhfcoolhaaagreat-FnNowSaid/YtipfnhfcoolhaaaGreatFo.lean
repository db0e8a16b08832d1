/- The program's functions on rows, part 2. -/
import Derived.Test.YtipfnhfcoolhaaaGreatFn
namespace Go.Proofs.YtipfnhfcoolhaaaGreat.Aw
open Go Go.RowKit
set_option linter.unusedVariables false
set_option linter.unusedSimpArgs false
set_option maxRecDepth 100000
set_option maxHeartbeats 2000000
theorem timer_bd {r : RowD} (h : rowP r) (hk : r.kind = 3) : r.sum = 0 ∧ (0 ≤ r.n ∧ r.n ≤ 3) ∧ (0 ≤ r.mn ∧ r.mn ≤ 65535) ∧ (0 ≤ r.mx ∧ r.mx ≤ 65535) ∧ (0 ≤ r.total ∧ r.total ≤ 196605) ∧ 0 ≤ r.dropped ∧ r.dropped ≤ 65535 := by
  have h := h.2
  simp only [hk, if_true, show ¬ ((3 : Int) = 1) by decide, show ¬ ((3 : Int) = 2) by decide, if_false] at h
  obtain ⟨h1, h2, h3, h4⟩ := h
  unfold timerP at h4
  split at h4
  · omega
  · obtain ⟨g1, g2, g3, g4, g5, g6⟩ := h4
    have m1 := mul3 g1 (x := r.mn) (by omega)
    have m2 := mul3 g1 (x := r.mx) (by omega)
    omega
theorem Sampled_spec (W0 : World) (cs : List AV) (r : RowD) (v : Int) (H : AH) (hr : Ob.rep W0 H cs r) : ACalls Tryz.prog W0 206 [.agg cs, .v (.int .i64 v)] H (fun u H' => u = .agg (rowCells (sampled r v)) ∧ H' = H) := by
  refine acallw Tryz.func206 rfl (by kernel_rfl) (by kernel_rfl) fun hc hw => ?_
  have hr' := hr
  obtain ⟨rfl, hb⟩ := hr'
  by_cases hp : rowP r ∧ r.kind = 3 ∧ 0 ≤ v ∧ v ≤ 65535
  · have hk : rowOk r = true := decide_eq_true hp.1
    have hbd := timer_bd hp.1 hp.2.1
    repeat' (first | simp -implicitDefEqProofs only [go_sem] | refine acond_dec (fun _ => ?_) (fun _ => ?_) | refine acond_ndec (fun _ => ?_) (fun _ => ?_) | refine agrd_dec (fun _ => ?_) (fun _ => ?_) | refine agrd_decf (fun _ => ?_) (fun _ => ?_) | refine agrd_ndec (fun _ => ?_) (fun _ => ?_) | refine agrd_ndecf (fun _ => ?_) (fun _ => ?_) | refine abi_len_sl' (by assumption) ?_ | refine aixs_sln (by assumption) ?_ | refine afa_sl (by assumption) ?_ | (refine aK_sl (by assumption) (by omega) ?_; first | rintro _ ⟨rfl, _⟩ | (intro _ hx; obtain ⟨_, rfl, _, _⟩ := EvD.out hx) | (intro _ hx; obtain ⟨_, _, rfl, _, _, _⟩ := JobD.out hx) | rintro _ ⟨_, rfl, _⟩) | rw [SlR.one (by assumption)] | rw [SlR.leaf (by assumption)] | simp -implicitDefEqProofs (disch := omega) only [wrap_in, u8_small, Int.tmod_eq_emod_of_nonneg, Int.tdiv_eq_ediv_of_nonneg] | refine aK_sub (by assumption) ?_ | refine aix_strn (fun _ _ => ?_) | ((with_reducible refine adraw_seq ?_ ?_ ?_); (· kernel_rfl); (· decide +kernel)) | refine ACallK.eq (RowOk_spec _ _ r _ (Ob.sub (by repeat (first | exact Sub.refl _ | assumption | refine Sub.new (by assumption) ?_ _ _ | refine Sub.kill_new (by assumption) ?_ _ _ | refine Sub.trans ?_ (by assumption))) hr)) ?_ | rw [hk] | refine ACallK.eq (l1In_ok _ _ _ _ _) ?_ | simp -implicitDefEqProofs only [go_sem, slCells_own, aapp_own] | refine And.intro (by omega) (And.intro (by omega) ?_) | refine acond_split (fun _ => ?_) (fun _ => ?_) | refine agrd_bt (fun _ => ?_) (fun _ => ?_) | refine agrd_bf (fun _ => ?_) (fun _ => ?_) | refine retK_eq ?_ | refine retK_back (by assumption) ?_ | refine retK_eq2 ?_ | refine retK_back2 (by assumption) ?_)
    all_goals first
      | (exfalso; omega)
      | (simp_all [sampled]; done)
      | (simp_all [sampled]; omega)
      | (exfalso; apply hp; simp_all [rowOk]; omega)
      | (exfalso; rename_i x; have := x; apply hp; simp_all [rowOk]; omega)
      | (exfalso; apply hp; simp_all [rowOk]; done)
  · repeat' (first | simp -implicitDefEqProofs only [go_sem] | refine acond_dec (fun _ => ?_) (fun _ => ?_) | refine acond_ndec (fun _ => ?_) (fun _ => ?_) | refine agrd_dec (fun _ => ?_) (fun _ => ?_) | refine agrd_decf (fun _ => ?_) (fun _ => ?_) | refine agrd_ndec (fun _ => ?_) (fun _ => ?_) | refine agrd_ndecf (fun _ => ?_) (fun _ => ?_) | refine abi_len_sl' (by assumption) ?_ | refine aixs_sln (by assumption) ?_ | refine afa_sl (by assumption) ?_ | (refine aK_sl (by assumption) (by omega) ?_; first | rintro _ ⟨rfl, _⟩ | (intro _ hx; obtain ⟨_, rfl, _, _⟩ := EvD.out hx) | (intro _ hx; obtain ⟨_, _, rfl, _, _, _⟩ := JobD.out hx) | rintro _ ⟨_, rfl, _⟩) | rw [SlR.one (by assumption)] | rw [SlR.leaf (by assumption)] | simp -implicitDefEqProofs (disch := omega) only [wrap_in, u8_small, Int.tmod_eq_emod_of_nonneg, Int.tdiv_eq_ediv_of_nonneg] | refine aK_sub (by assumption) ?_ | refine aix_strn (fun _ _ => ?_) | ((with_reducible refine adraw_seq ?_ ?_ ?_); (· kernel_rfl); (· decide +kernel)) | refine ACallK.eq (RowOk_spec _ _ r _ (Ob.sub (by repeat (first | exact Sub.refl _ | assumption | refine Sub.new (by assumption) ?_ _ _ | refine Sub.kill_new (by assumption) ?_ _ _ | refine Sub.trans ?_ (by assumption))) hr)) ?_ | refine ACallK.eq (l1In_ok _ _ _ _ _) ?_ | simp -implicitDefEqProofs only [go_sem, slCells_own, aapp_own] | refine And.intro (by omega) (And.intro (by omega) ?_) | refine acond_split (fun _ => ?_) (fun _ => ?_) | refine agrd_bt (fun _ => ?_) (fun _ => ?_) | refine agrd_bf (fun _ => ?_) (fun _ => ?_) | refine retK_eq ?_ | refine retK_back (by assumption) ?_ | refine retK_eq2 ?_ | refine retK_back2 (by assumption) ?_)
    all_goals (try rw [show sampled r v = r from if_neg hp])
    all_goals first
      | rfl
      | (exfalso; omega)
      | (simp_all [sampled]; done)
      | (simp_all [sampled]; omega)
      | (exfalso; apply hp; simp_all [rowOk]; omega)
      | (exfalso; rename_i x; have := x; apply hp; simp_all [rowOk]; omega)
      | (exfalso; apply hp; simp_all [rowOk]; done)

theorem Sampled_impl (W0 : World) (cs : List AV) (r : RowD) (v : Int) (H : AH) (hr : Ob.rep W0 H cs r) : ACalls Tryz.prog W0 205 [.agg cs, .v (.int .i64 v)] H (fun u H' => u = .agg (rowCells (sampled r v)) ∧ H' = H) := by
  refine acallw Tryz.func205 rfl (by kernel_rfl) (by kernel_rfl) fun hc hw => ?_
  have hr' := hr
  obtain ⟨rfl, hb⟩ := hr'
  by_cases hp : rowP r ∧ r.kind = 3 ∧ 0 ≤ v ∧ v ≤ 65535
  · have hk : rowOk r = true := decide_eq_true hp.1
    have hbd := timer_bd hp.1 hp.2.1
    repeat' (first | simp -implicitDefEqProofs only [go_sem] | refine acond_dec (fun _ => ?_) (fun _ => ?_) | refine acond_ndec (fun _ => ?_) (fun _ => ?_) | refine agrd_dec (fun _ => ?_) (fun _ => ?_) | refine agrd_decf (fun _ => ?_) (fun _ => ?_) | refine agrd_ndec (fun _ => ?_) (fun _ => ?_) | refine agrd_ndecf (fun _ => ?_) (fun _ => ?_) | refine abi_len_sl' (by assumption) ?_ | refine aixs_sln (by assumption) ?_ | refine afa_sl (by assumption) ?_ | (refine aK_sl (by assumption) (by omega) ?_; first | rintro _ ⟨rfl, _⟩ | (intro _ hx; obtain ⟨_, rfl, _, _⟩ := EvD.out hx) | (intro _ hx; obtain ⟨_, _, rfl, _, _, _⟩ := JobD.out hx) | rintro _ ⟨_, rfl, _⟩) | rw [SlR.one (by assumption)] | rw [SlR.leaf (by assumption)] | simp -implicitDefEqProofs (disch := omega) only [wrap_in, u8_small, Int.tmod_eq_emod_of_nonneg, Int.tdiv_eq_ediv_of_nonneg] | refine aK_sub (by assumption) ?_ | refine aix_strn (fun _ _ => ?_) | ((with_reducible refine adraw_seq ?_ ?_ ?_); (· kernel_rfl); (· decide +kernel)) | refine ACallK.eq (RowOk_impl _ _ r _ (Ob.sub (by repeat (first | exact Sub.refl _ | assumption | refine Sub.new (by assumption) ?_ _ _ | refine Sub.kill_new (by assumption) ?_ _ _ | refine Sub.trans ?_ (by assumption))) hr)) ?_ | rw [hk] | refine ACallK.eq (within_ok _ _ _ _ _) ?_ | simp -implicitDefEqProofs only [go_sem, slCells_own, aapp_own] | refine And.intro (by omega) (And.intro (by omega) ?_) | refine acond_split (fun _ => ?_) (fun _ => ?_) | refine agrd_bt (fun _ => ?_) (fun _ => ?_) | refine agrd_bf (fun _ => ?_) (fun _ => ?_) | refine retK_eq ?_ | refine retK_back (by assumption) ?_ | refine retK_eq2 ?_ | refine retK_back2 (by assumption) ?_)
    all_goals first
      | (exfalso; omega)
      | (simp_all [sampled]; done)
      | (simp_all [sampled]; omega)
      | (exfalso; apply hp; simp_all [rowOk]; omega)
      | (exfalso; rename_i x; have := x; apply hp; simp_all [rowOk]; omega)
      | (exfalso; apply hp; simp_all [rowOk]; done)
  · repeat' (first | simp -implicitDefEqProofs only [go_sem] | refine acond_dec (fun _ => ?_) (fun _ => ?_) | refine acond_ndec (fun _ => ?_) (fun _ => ?_) | refine agrd_dec (fun _ => ?_) (fun _ => ?_) | refine agrd_decf (fun _ => ?_) (fun _ => ?_) | refine agrd_ndec (fun _ => ?_) (fun _ => ?_) | refine agrd_ndecf (fun _ => ?_) (fun _ => ?_) | refine abi_len_sl' (by assumption) ?_ | refine aixs_sln (by assumption) ?_ | refine afa_sl (by assumption) ?_ | (refine aK_sl (by assumption) (by omega) ?_; first | rintro _ ⟨rfl, _⟩ | (intro _ hx; obtain ⟨_, rfl, _, _⟩ := EvD.out hx) | (intro _ hx; obtain ⟨_, _, rfl, _, _, _⟩ := JobD.out hx) | rintro _ ⟨_, rfl, _⟩) | rw [SlR.one (by assumption)] | rw [SlR.leaf (by assumption)] | simp -implicitDefEqProofs (disch := omega) only [wrap_in, u8_small, Int.tmod_eq_emod_of_nonneg, Int.tdiv_eq_ediv_of_nonneg] | refine aK_sub (by assumption) ?_ | refine aix_strn (fun _ _ => ?_) | ((with_reducible refine adraw_seq ?_ ?_ ?_); (· kernel_rfl); (· decide +kernel)) | refine ACallK.eq (RowOk_impl _ _ r _ (Ob.sub (by repeat (first | exact Sub.refl _ | assumption | refine Sub.new (by assumption) ?_ _ _ | refine Sub.kill_new (by assumption) ?_ _ _ | refine Sub.trans ?_ (by assumption))) hr)) ?_ | refine ACallK.eq (within_ok _ _ _ _ _) ?_ | simp -implicitDefEqProofs only [go_sem, slCells_own, aapp_own] | refine And.intro (by omega) (And.intro (by omega) ?_) | refine acond_split (fun _ => ?_) (fun _ => ?_) | refine agrd_bt (fun _ => ?_) (fun _ => ?_) | refine agrd_bf (fun _ => ?_) (fun _ => ?_) | refine retK_eq ?_ | refine retK_back (by assumption) ?_ | refine retK_eq2 ?_ | refine retK_back2 (by assumption) ?_)
    all_goals (try rw [show sampled r v = r from if_neg hp])
    all_goals first
      | rfl
      | (exfalso; omega)
      | (simp_all [sampled]; done)
      | (simp_all [sampled]; omega)
      | (exfalso; apply hp; simp_all [rowOk]; omega)
      | (exfalso; rename_i x; have := x; apply hp; simp_all [rowOk]; omega)
      | (exfalso; apply hp; simp_all [rowOk]; done)

theorem sampled_B {r : RowD} (h : rowB r) (v : Int) : rowB (sampled r v) := by
  unfold sampled
  split
  · rename_i hp
    have hb := timer_bd hp.1 hp.2.1
    obtain ⟨h1, h2, h3, h4, h5, h6, h7, h8, h9⟩ := h
    split
    · refine ⟨h1, h2, h3, h4, h5, h6, h7, h8, ?_⟩
      simp only [inI64]; split <;> omega
    · refine ⟨h1, h2, h3, h4, ?_, ?_, ?_, ?_, h9⟩ <;> simp only [inI64] <;> (try split) <;> (try split) <;> omega
  · exact h
end Go.Proofs.YtipfnhfcoolhaaaGreat.Aw
