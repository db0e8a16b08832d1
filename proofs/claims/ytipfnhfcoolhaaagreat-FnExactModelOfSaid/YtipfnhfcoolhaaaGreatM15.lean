/- Parts of a proof: L6ModelOf Dc. -/
import Derived.Test.YtipfnhfcoolhaaaGreatM13
import Derived.Test.YtipfnhfcoolhaaaGreatM02
import Derived.Test.YtipfnhfcoolhaaaGreatM14
import Derived.Test.YtipfnhfcoolhaaaGreatM04
set_option linter.unusedVariables false
set_option linter.unusedSimpArgs false
section
namespace Go.Proofs.YtipfnhfcoolhaaaGreat.Aw
open Go Go.RowKit
set_option maxRecDepth 100000
set_option maxHeartbeats 2000000
attribute [-go_sem] wr_eq
theorem ExactModelOf_law (W0 : World) (v_a : AV) (a : List Int) (H : AH) (ha : SlR W0 H v_a a) : ACalls Tryz.prog W0 3 [v_a] H (fun v _ => v = .v (.bool true)) := by
  refine acallw Tryz.func3 rfl (by kernel_rfl) (by kernel_rfl) fun hc hw => ?_
  have hbl_a := ha.2.1; simp only [big] at hbl_a
  repeat' (first | simp -implicitDefEqProofs only [go_sem] | (exact retK_one rfl) | (refine ACallK.szk (szIntS_ok _ _ a _ _ (SlR.sub' (by assumption)) (by omega) (by omega)) (fun _ => ?_) (fun _ => ?_)) | refine acond_decF (by omega) ?_ | refine acond_decT (by omega) ?_ | refine acond_ndecF (by omega) ?_ | refine acond_ndecT (by omega) ?_ | refine acond_dec (fun _ => ?_) (fun _ => ?_) | refine acond_ndec (fun _ => ?_) (fun _ => ?_) | refine agrd_dec (fun _ => ?_) (fun _ => ?_) | refine agrd_decf (fun _ => ?_) (fun _ => ?_) | refine agrd_ndec (fun _ => ?_) (fun _ => ?_) | refine agrd_ndecf (fun _ => ?_) (fun _ => ?_) | refine abi_len_sl' (by assumption) ?_ | refine aixs_sln (by assumption) ?_ | refine afa_sl (by assumption) ?_ | (refine aK_sl (by assumption) (by omega) ?_; first | rintro _ ⟨rfl, _⟩ | (intro _ hx; obtain ⟨_, rfl, _, _⟩ := EvD.out hx) | (intro _ hx; obtain ⟨_, _, rfl, _, _, _⟩ := JobD.out hx) | rintro _ ⟨_, rfl, _⟩) | rw [SlR.one (by assumption)] | rw [SlR.leaf (by assumption)] | simp -implicitDefEqProofs (disch := omega) only [wrap_in, u8_small, Int.tmod_eq_emod_of_nonneg, Int.tdiv_eq_ediv_of_nonneg] | refine aK_sub (by assumption) ?_ | refine aix_strn (fun _ _ => ?_) | ((with_reducible refine adraw_seq ?_ ?_ ?_); (· kernel_rfl); (· decide +kernel)) | simp -implicitDefEqProofs only [go_sem, slCells_own, aapp_own] | (with_reducible refine And.intro (by omega) ?_) | refine And.intro (by omega) (And.intro (by omega) ?_) | refine acond_split (fun _ => ?_) (fun _ => ?_) | refine agrd_bt (fun _ => ?_) (fun _ => ?_) | refine agrd_bf (fun _ => ?_) (fun _ => ?_) | refine retK_eq ?_ | refine retK_back (by assumption) ?_ | refine retK_eq2 ?_ | refine retK_back2 (by assumption) ?_ | (with_reducible refine And.intro ?_ ?_))
  have hz_a : Ob.sz a ≤ 1048576 := by first | omega | (rw [obsz_int]; omega)
  have take_n : ∀ {l : List AV} {n : Nat}, l.length = n → l.take n = l := fun h => List.take_of_length_le (by omega)
  have z0 : Sub H H := Sub.refl _
  refine ACallK.of (toIntS_new _ _ a _ (ha.sub z0) hz_a).cl ?_
  rintro u1 H1 ⟨⟨s1, S1, o1, f1⟩, k1⟩
  have e1 : H.nxt ≤ H1.nxt := s1.1
  have z1 : Sub H H1 := z0.trans s1
  have l1 : ∀ b ∈ S1, b < H1.nxt := fun b hb => k1.1.lt' (o1.isin b hb)
  repeat' (first | simp -implicitDefEqProofs only [go_sem] | refine acond_decF (by omega) ?_ | refine acond_decT (by omega) ?_ | refine acond_ndecF (by omega) ?_ | refine acond_ndecT (by omega) ?_ | refine acond_dec (fun _ => ?_) (fun _ => ?_) | refine acond_ndec (fun _ => ?_) (fun _ => ?_) | refine agrd_dec (fun _ => ?_) (fun _ => ?_) | refine agrd_decf (fun _ => ?_) (fun _ => ?_) | refine agrd_ndec (fun _ => ?_) (fun _ => ?_) | refine agrd_ndecf (fun _ => ?_) (fun _ => ?_) | refine abi_len_sl' (by assumption) ?_ | refine aixs_sln (by assumption) ?_ | refine afa_sl (by assumption) ?_ | (refine aK_sl (by assumption) (by omega) ?_; first | rintro _ ⟨rfl, _⟩ | (intro _ hx; obtain ⟨_, rfl, _, _⟩ := EvD.out hx) | (intro _ hx; obtain ⟨_, _, rfl, _, _, _⟩ := JobD.out hx) | rintro _ ⟨_, rfl, _⟩) | rw [SlR.one (by assumption)] | rw [SlR.leaf (by assumption)] | simp -implicitDefEqProofs (disch := omega) only [wrap_in, u8_small, Int.tmod_eq_emod_of_nonneg, Int.tdiv_eq_ediv_of_nonneg] | refine aK_sub (by assumption) ?_ | refine aix_strn (fun _ _ => ?_) | ((with_reducible refine adraw_seq ?_ ?_ ?_); (· kernel_rfl); (· decide +kernel)) | simp -implicitDefEqProofs only [go_sem, slCells_own, aapp_own] | (with_reducible refine And.intro (by omega) ?_) | refine And.intro (by omega) (And.intro (by omega) ?_) | refine acond_split (fun _ => ?_) (fun _ => ?_) | refine agrd_bt (fun _ => ?_) (fun _ => ?_) | refine agrd_bf (fun _ => ?_) (fun _ => ?_) | refine retK_eq ?_ | refine retK_back (by assumption) ?_ | refine retK_eq2 ?_ | refine retK_back2 (by assumption) ?_ | (with_reducible refine And.intro ?_ ?_))
  refine ACallK.of (ModelOf_spec _ u1 a _ o1.slr).cl ?_
  rintro _ H2 ⟨⟨s2, S2, u2, rfl, o2, f2⟩, k2⟩
  have e2 : H1.nxt ≤ H2.nxt := s2.1
  have z2 : Sub H H2 := z1.trans s2
  have o1 := o1.sub s2
  have l2 : ∀ b ∈ S2, b < H2.nxt := fun b hb => k2.1.lt' (Own.isin o2 b hb)
  have n2 : u2.length = 2 := Ob.len (Own.rep (W0 := W0) o2)
  have lf2 : u2.all leafA = true := Ob.leaf (Own.rep (W0 := W0) o2)
  repeat' (first | simp -implicitDefEqProofs only [go_sem] | (with_reducible refine And.intro n2 ?_) | (with_reducible refine And.intro lf2 ?_) | (rw [wr_all _ _ (by rw [n2]; rfl)]) | refine acond_decF (by omega) ?_ | refine acond_decT (by omega) ?_ | refine acond_ndecF (by omega) ?_ | refine acond_ndecT (by omega) ?_ | refine acond_dec (fun _ => ?_) (fun _ => ?_) | refine acond_ndec (fun _ => ?_) (fun _ => ?_) | refine agrd_dec (fun _ => ?_) (fun _ => ?_) | refine agrd_decf (fun _ => ?_) (fun _ => ?_) | refine agrd_ndec (fun _ => ?_) (fun _ => ?_) | refine agrd_ndecf (fun _ => ?_) (fun _ => ?_) | refine abi_len_sl' (by assumption) ?_ | refine aixs_sln (by assumption) ?_ | refine afa_sl (by assumption) ?_ | (refine aK_sl (by assumption) (by omega) ?_; first | rintro _ ⟨rfl, _⟩ | (intro _ hx; obtain ⟨_, rfl, _, _⟩ := EvD.out hx) | (intro _ hx; obtain ⟨_, _, rfl, _, _, _⟩ := JobD.out hx) | rintro _ ⟨_, rfl, _⟩) | rw [SlR.one (by assumption)] | rw [SlR.leaf (by assumption)] | simp -implicitDefEqProofs (disch := omega) only [wrap_in, u8_small, Int.tmod_eq_emod_of_nonneg, Int.tdiv_eq_ediv_of_nonneg] | refine aK_sub (by assumption) ?_ | refine aix_strn (fun _ _ => ?_) | ((with_reducible refine adraw_seq ?_ ?_ ?_); (· kernel_rfl); (· decide +kernel)) | simp -implicitDefEqProofs only [go_sem, slCells_own, aapp_own] | (with_reducible refine And.intro (by omega) ?_) | refine And.intro (by omega) (And.intro (by omega) ?_) | refine acond_split (fun _ => ?_) (fun _ => ?_) | refine agrd_bt (fun _ => ?_) (fun _ => ?_) | refine agrd_bf (fun _ => ?_) (fun _ => ?_) | refine retK_eq ?_ | refine retK_back (by assumption) ?_ | refine retK_eq2 ?_ | refine retK_back2 (by assumption) ?_ | (with_reducible refine And.intro ?_ ?_))
  obtain ⟨H3, hH3⟩ : ∃ X, X = H2.new u2 2 := ⟨_, rfl⟩
  rw [← hH3]
  have k3 : H3.wf ∧ True := ⟨by rw [hH3]; exact k2.1.new _ _, trivial⟩
  have s3 : Sub H2 H3 := by rw [hH3]; exact (Sub.refl _).new k2.1 _ _
  have xb2 : H3.blk H2.nxt = some ⟨u2, 2⟩ := by rw [hH3]; exact blk_new_self _ _ _
  have hlt3 : H2.nxt < H3.nxt := by rw [hH3]; exact Nat.lt_succ_self _
  clear hH3
  have e3 : H2.nxt ≤ H3.nxt := s3.1
  have z3 : Sub H H3 := z2.trans s3
  have o2 := Own.sub o2 s3
  repeat' (first | simp -implicitDefEqProofs only [go_sem] | (simp -implicitDefEqProofs only [xb2, take_n n2, n2, List.drop_zero, Nat.le_refl]) | refine acond_decF (by omega) ?_ | refine acond_decT (by omega) ?_ | refine acond_ndecF (by omega) ?_ | refine acond_ndecT (by omega) ?_ | refine acond_dec (fun _ => ?_) (fun _ => ?_) | refine acond_ndec (fun _ => ?_) (fun _ => ?_) | refine agrd_dec (fun _ => ?_) (fun _ => ?_) | refine agrd_decf (fun _ => ?_) (fun _ => ?_) | refine agrd_ndec (fun _ => ?_) (fun _ => ?_) | refine agrd_ndecf (fun _ => ?_) (fun _ => ?_) | refine abi_len_sl' (by assumption) ?_ | refine aixs_sln (by assumption) ?_ | refine afa_sl (by assumption) ?_ | (refine aK_sl (by assumption) (by omega) ?_; first | rintro _ ⟨rfl, _⟩ | (intro _ hx; obtain ⟨_, rfl, _, _⟩ := EvD.out hx) | (intro _ hx; obtain ⟨_, _, rfl, _, _, _⟩ := JobD.out hx) | rintro _ ⟨_, rfl, _⟩) | rw [SlR.one (by assumption)] | rw [SlR.leaf (by assumption)] | simp -implicitDefEqProofs (disch := omega) only [wrap_in, u8_small, Int.tmod_eq_emod_of_nonneg, Int.tdiv_eq_ediv_of_nonneg] | refine aK_sub (by assumption) ?_ | refine aix_strn (fun _ _ => ?_) | ((with_reducible refine adraw_seq ?_ ?_ ?_); (· kernel_rfl); (· decide +kernel)) | simp -implicitDefEqProofs only [go_sem, slCells_own, aapp_own] | (with_reducible refine And.intro (by omega) ?_) | refine And.intro (by omega) (And.intro (by omega) ?_) | refine acond_split (fun _ => ?_) (fun _ => ?_) | refine agrd_bt (fun _ => ?_) (fun _ => ?_) | refine agrd_bf (fun _ => ?_) (fun _ => ?_) | refine retK_eq ?_ | refine retK_back (by assumption) ?_ | refine retK_eq2 ?_ | refine retK_back2 (by assumption) ?_ | (with_reducible refine And.intro ?_ ?_))
  refine ACallK.of (toIntS_new _ _ a _ (ha.sub z3) hz_a).cl ?_
  rintro u4 H4 ⟨⟨s4, S4, o4, f4⟩, k4⟩
  have e4 : H3.nxt ≤ H4.nxt := s4.1
  have z4 : Sub H H4 := z3.trans s4
  have o2 := Own.sub o2 s4
  have xb2 := s4.2 _ _ xb2
  have l4 : ∀ b ∈ S4, b < H4.nxt := fun b hb => k4.1.lt' (o4.isin b hb)
  repeat' (first | simp -implicitDefEqProofs only [go_sem] | (simp -implicitDefEqProofs only [xb2, take_n n2, n2, List.drop_zero, Nat.le_refl]) | refine acond_decF (by omega) ?_ | refine acond_decT (by omega) ?_ | refine acond_ndecF (by omega) ?_ | refine acond_ndecT (by omega) ?_ | refine acond_dec (fun _ => ?_) (fun _ => ?_) | refine acond_ndec (fun _ => ?_) (fun _ => ?_) | refine agrd_dec (fun _ => ?_) (fun _ => ?_) | refine agrd_decf (fun _ => ?_) (fun _ => ?_) | refine agrd_ndec (fun _ => ?_) (fun _ => ?_) | refine agrd_ndecf (fun _ => ?_) (fun _ => ?_) | refine abi_len_sl' (by assumption) ?_ | refine aixs_sln (by assumption) ?_ | refine afa_sl (by assumption) ?_ | (refine aK_sl (by assumption) (by omega) ?_; first | rintro _ ⟨rfl, _⟩ | (intro _ hx; obtain ⟨_, rfl, _, _⟩ := EvD.out hx) | (intro _ hx; obtain ⟨_, _, rfl, _, _, _⟩ := JobD.out hx) | rintro _ ⟨_, rfl, _⟩) | rw [SlR.one (by assumption)] | rw [SlR.leaf (by assumption)] | simp -implicitDefEqProofs (disch := omega) only [wrap_in, u8_small, Int.tmod_eq_emod_of_nonneg, Int.tdiv_eq_ediv_of_nonneg] | refine aK_sub (by assumption) ?_ | refine aix_strn (fun _ _ => ?_) | ((with_reducible refine adraw_seq ?_ ?_ ?_); (· kernel_rfl); (· decide +kernel)) | simp -implicitDefEqProofs only [go_sem, slCells_own, aapp_own] | (with_reducible refine And.intro (by omega) ?_) | refine And.intro (by omega) (And.intro (by omega) ?_) | refine acond_split (fun _ => ?_) (fun _ => ?_) | refine agrd_bt (fun _ => ?_) (fun _ => ?_) | refine agrd_bf (fun _ => ?_) (fun _ => ?_) | refine retK_eq ?_ | refine retK_back (by assumption) ?_ | refine retK_eq2 ?_ | refine retK_back2 (by assumption) ?_ | (with_reducible refine And.intro ?_ ?_))
  refine ACallK.of (ModelOf_impl _ u4 a _ o4.slr).cl ?_
  rintro _ H5 ⟨⟨s5, S5, u5, rfl, o5, f5⟩, k5⟩
  have e5 : H4.nxt ≤ H5.nxt := s5.1
  have z5 : Sub H H5 := z4.trans s5
  have o2 := Own.sub o2 s5
  have o4 := o4.sub s5
  have xb2 := s5.2 _ _ xb2
  have l5 : ∀ b ∈ S5, b < H5.nxt := fun b hb => k5.1.lt' (Own.isin o5 b hb)
  have n5 : u5.length = 2 := Ob.len (Own.rep (W0 := W0) o5)
  have lf5 : u5.all leafA = true := Ob.leaf (Own.rep (W0 := W0) o5)
  repeat' (first | simp -implicitDefEqProofs only [go_sem] | (with_reducible refine And.intro n5 ?_) | (with_reducible refine And.intro lf5 ?_) | (rw [wr_all _ _ (by rw [n5]; rfl)]) | refine acond_decF (by omega) ?_ | refine acond_decT (by omega) ?_ | refine acond_ndecF (by omega) ?_ | refine acond_ndecT (by omega) ?_ | refine acond_dec (fun _ => ?_) (fun _ => ?_) | refine acond_ndec (fun _ => ?_) (fun _ => ?_) | refine agrd_dec (fun _ => ?_) (fun _ => ?_) | refine agrd_decf (fun _ => ?_) (fun _ => ?_) | refine agrd_ndec (fun _ => ?_) (fun _ => ?_) | refine agrd_ndecf (fun _ => ?_) (fun _ => ?_) | refine abi_len_sl' (by assumption) ?_ | refine aixs_sln (by assumption) ?_ | refine afa_sl (by assumption) ?_ | (refine aK_sl (by assumption) (by omega) ?_; first | rintro _ ⟨rfl, _⟩ | (intro _ hx; obtain ⟨_, rfl, _, _⟩ := EvD.out hx) | (intro _ hx; obtain ⟨_, _, rfl, _, _, _⟩ := JobD.out hx) | rintro _ ⟨_, rfl, _⟩) | rw [SlR.one (by assumption)] | rw [SlR.leaf (by assumption)] | simp -implicitDefEqProofs (disch := omega) only [wrap_in, u8_small, Int.tmod_eq_emod_of_nonneg, Int.tdiv_eq_ediv_of_nonneg] | refine aK_sub (by assumption) ?_ | refine aix_strn (fun _ _ => ?_) | ((with_reducible refine adraw_seq ?_ ?_ ?_); (· kernel_rfl); (· decide +kernel)) | simp -implicitDefEqProofs only [go_sem, slCells_own, aapp_own] | (with_reducible refine And.intro (by omega) ?_) | refine And.intro (by omega) (And.intro (by omega) ?_) | refine acond_split (fun _ => ?_) (fun _ => ?_) | refine agrd_bt (fun _ => ?_) (fun _ => ?_) | refine agrd_bf (fun _ => ?_) (fun _ => ?_) | refine retK_eq ?_ | refine retK_back (by assumption) ?_ | refine retK_eq2 ?_ | refine retK_back2 (by assumption) ?_ | (with_reducible refine And.intro ?_ ?_))
  obtain ⟨H6, hH6⟩ : ∃ X, X = H5.new u5 2 := ⟨_, rfl⟩
  rw [← hH6]
  have k6 : H6.wf ∧ True := ⟨by rw [hH6]; exact k5.1.new _ _, trivial⟩
  have s6 : Sub H5 H6 := by rw [hH6]; exact (Sub.refl _).new k5.1 _ _
  have xb5 : H6.blk H5.nxt = some ⟨u5, 2⟩ := by rw [hH6]; exact blk_new_self _ _ _
  have hlt6 : H5.nxt < H6.nxt := by rw [hH6]; exact Nat.lt_succ_self _
  clear hH6
  have e6 : H5.nxt ≤ H6.nxt := s6.1
  have z6 : Sub H H6 := z5.trans s6
  have o2 := Own.sub o2 s6
  have o4 := o4.sub s6
  have o5 := Own.sub o5 s6
  have xb2 := s6.2 _ _ xb2
  repeat' (first | simp -implicitDefEqProofs only [go_sem] | (simp -implicitDefEqProofs only [xb2, take_n n2, n2, xb5, take_n n5, n5, List.drop_zero, Nat.le_refl]) | refine acond_decF (by omega) ?_ | refine acond_decT (by omega) ?_ | refine acond_ndecF (by omega) ?_ | refine acond_ndecT (by omega) ?_ | refine acond_dec (fun _ => ?_) (fun _ => ?_) | refine acond_ndec (fun _ => ?_) (fun _ => ?_) | refine agrd_dec (fun _ => ?_) (fun _ => ?_) | refine agrd_decf (fun _ => ?_) (fun _ => ?_) | refine agrd_ndec (fun _ => ?_) (fun _ => ?_) | refine agrd_ndecf (fun _ => ?_) (fun _ => ?_) | refine abi_len_sl' (by assumption) ?_ | refine aixs_sln (by assumption) ?_ | refine afa_sl (by assumption) ?_ | (refine aK_sl (by assumption) (by omega) ?_; first | rintro _ ⟨rfl, _⟩ | (intro _ hx; obtain ⟨_, rfl, _, _⟩ := EvD.out hx) | (intro _ hx; obtain ⟨_, _, rfl, _, _, _⟩ := JobD.out hx) | rintro _ ⟨_, rfl, _⟩) | rw [SlR.one (by assumption)] | rw [SlR.leaf (by assumption)] | simp -implicitDefEqProofs (disch := omega) only [wrap_in, u8_small, Int.tmod_eq_emod_of_nonneg, Int.tdiv_eq_ediv_of_nonneg] | refine aK_sub (by assumption) ?_ | refine aix_strn (fun _ _ => ?_) | ((with_reducible refine adraw_seq ?_ ?_ ?_); (· kernel_rfl); (· decide +kernel)) | simp -implicitDefEqProofs only [go_sem, slCells_own, aapp_own] | (with_reducible refine And.intro (by omega) ?_) | refine And.intro (by omega) (And.intro (by omega) ?_) | refine acond_split (fun _ => ?_) (fun _ => ?_) | refine agrd_bt (fun _ => ?_) (fun _ => ?_) | refine agrd_bf (fun _ => ?_) (fun _ => ?_) | refine retK_eq ?_ | refine retK_back (by assumption) ?_ | refine retK_eq2 ?_ | refine retK_back2 (by assumption) ?_ | (with_reducible refine And.intro ?_ ?_))
  refine ACallK.eq (eqModel_ok _ u5 u2 (modelOf a) (modelOf a) _ (Own.rep o5) (Own.rep o2)) ?_
  rw [decide_eq_true rfl]
  repeat' (first | simp -implicitDefEqProofs only [go_sem] | (simp -implicitDefEqProofs only [xb2, take_n n2, n2, xb5, take_n n5, n5, List.drop_zero, Nat.le_refl]) | refine acond_decF (by omega) ?_ | refine acond_decT (by omega) ?_ | refine acond_ndecF (by omega) ?_ | refine acond_ndecT (by omega) ?_ | refine acond_dec (fun _ => ?_) (fun _ => ?_) | refine acond_ndec (fun _ => ?_) (fun _ => ?_) | refine agrd_dec (fun _ => ?_) (fun _ => ?_) | refine agrd_decf (fun _ => ?_) (fun _ => ?_) | refine agrd_ndec (fun _ => ?_) (fun _ => ?_) | refine agrd_ndecf (fun _ => ?_) (fun _ => ?_) | refine abi_len_sl' (by assumption) ?_ | refine aixs_sln (by assumption) ?_ | refine afa_sl (by assumption) ?_ | (refine aK_sl (by assumption) (by omega) ?_; first | rintro _ ⟨rfl, _⟩ | (intro _ hx; obtain ⟨_, rfl, _, _⟩ := EvD.out hx) | (intro _ hx; obtain ⟨_, _, rfl, _, _, _⟩ := JobD.out hx) | rintro _ ⟨_, rfl, _⟩) | rw [SlR.one (by assumption)] | rw [SlR.leaf (by assumption)] | simp -implicitDefEqProofs (disch := omega) only [wrap_in, u8_small, Int.tmod_eq_emod_of_nonneg, Int.tdiv_eq_ediv_of_nonneg] | refine aK_sub (by assumption) ?_ | refine aix_strn (fun _ _ => ?_) | ((with_reducible refine adraw_seq ?_ ?_ ?_); (· kernel_rfl); (· decide +kernel)) | simp -implicitDefEqProofs only [go_sem, slCells_own, aapp_own] | (with_reducible refine And.intro (by omega) ?_) | refine And.intro (by omega) (And.intro (by omega) ?_) | refine acond_split (fun _ => ?_) (fun _ => ?_) | refine agrd_bt (fun _ => ?_) (fun _ => ?_) | refine agrd_bf (fun _ => ?_) (fun _ => ?_) | refine retK_eq ?_ | refine retK_back (by assumption) ?_ | refine retK_eq2 ?_ | refine retK_back2 (by assumption) ?_ | (with_reducible refine And.intro ?_ ?_))
  refine ACallK.of (toIntS_new _ _ a _ (ha.sub z6) hz_a).cl ?_
  rintro u7 H7 ⟨⟨s7, S7, o7, f7⟩, k7⟩
  have e7 : H6.nxt ≤ H7.nxt := s7.1
  have z7 : Sub H H7 := z6.trans s7
  have o2 := Own.sub o2 s7
  have o4 := o4.sub s7
  have o5 := Own.sub o5 s7
  have xb2 := s7.2 _ _ xb2
  have xb5 := s7.2 _ _ xb5
  have l7 : ∀ b ∈ S7, b < H7.nxt := fun b hb => k7.1.lt' (o7.isin b hb)
  repeat' (first | simp -implicitDefEqProofs only [go_sem] | (simp -implicitDefEqProofs only [xb2, take_n n2, n2, xb5, take_n n5, n5, List.drop_zero, Nat.le_refl]) | refine acond_decF (by omega) ?_ | refine acond_decT (by omega) ?_ | refine acond_ndecF (by omega) ?_ | refine acond_ndecT (by omega) ?_ | refine acond_dec (fun _ => ?_) (fun _ => ?_) | refine acond_ndec (fun _ => ?_) (fun _ => ?_) | refine agrd_dec (fun _ => ?_) (fun _ => ?_) | refine agrd_decf (fun _ => ?_) (fun _ => ?_) | refine agrd_ndec (fun _ => ?_) (fun _ => ?_) | refine agrd_ndecf (fun _ => ?_) (fun _ => ?_) | refine abi_len_sl' (by assumption) ?_ | refine aixs_sln (by assumption) ?_ | refine afa_sl (by assumption) ?_ | (refine aK_sl (by assumption) (by omega) ?_; first | rintro _ ⟨rfl, _⟩ | (intro _ hx; obtain ⟨_, rfl, _, _⟩ := EvD.out hx) | (intro _ hx; obtain ⟨_, _, rfl, _, _, _⟩ := JobD.out hx) | rintro _ ⟨_, rfl, _⟩) | rw [SlR.one (by assumption)] | rw [SlR.leaf (by assumption)] | simp -implicitDefEqProofs (disch := omega) only [wrap_in, u8_small, Int.tmod_eq_emod_of_nonneg, Int.tdiv_eq_ediv_of_nonneg] | refine aK_sub (by assumption) ?_ | refine aix_strn (fun _ _ => ?_) | ((with_reducible refine adraw_seq ?_ ?_ ?_); (· kernel_rfl); (· decide +kernel)) | simp -implicitDefEqProofs only [go_sem, slCells_own, aapp_own] | (with_reducible refine And.intro (by omega) ?_) | refine And.intro (by omega) (And.intro (by omega) ?_) | refine acond_split (fun _ => ?_) (fun _ => ?_) | refine agrd_bt (fun _ => ?_) (fun _ => ?_) | refine agrd_bf (fun _ => ?_) (fun _ => ?_) | refine retK_eq ?_ | refine retK_back (by assumption) ?_ | refine retK_eq2 ?_ | refine retK_back2 (by assumption) ?_ | (with_reducible refine And.intro ?_ ?_))
  refine ACallK.eq (eqIntS_ok _ u4 u7 (a) (a) _ o4.slr o7.slr) ?_
  rw [decide_eq_true rfl]
  repeat' (first | simp -implicitDefEqProofs only [go_sem] | (simp -implicitDefEqProofs only [xb2, take_n n2, n2, xb5, take_n n5, n5, List.drop_zero, Nat.le_refl]) | refine acond_decF (by omega) ?_ | refine acond_decT (by omega) ?_ | refine acond_ndecF (by omega) ?_ | refine acond_ndecT (by omega) ?_ | refine acond_dec (fun _ => ?_) (fun _ => ?_) | refine acond_ndec (fun _ => ?_) (fun _ => ?_) | refine agrd_dec (fun _ => ?_) (fun _ => ?_) | refine agrd_decf (fun _ => ?_) (fun _ => ?_) | refine agrd_ndec (fun _ => ?_) (fun _ => ?_) | refine agrd_ndecf (fun _ => ?_) (fun _ => ?_) | refine abi_len_sl' (by assumption) ?_ | refine aixs_sln (by assumption) ?_ | refine afa_sl (by assumption) ?_ | (refine aK_sl (by assumption) (by omega) ?_; first | rintro _ ⟨rfl, _⟩ | (intro _ hx; obtain ⟨_, rfl, _, _⟩ := EvD.out hx) | (intro _ hx; obtain ⟨_, _, rfl, _, _, _⟩ := JobD.out hx) | rintro _ ⟨_, rfl, _⟩) | rw [SlR.one (by assumption)] | rw [SlR.leaf (by assumption)] | simp -implicitDefEqProofs (disch := omega) only [wrap_in, u8_small, Int.tmod_eq_emod_of_nonneg, Int.tdiv_eq_ediv_of_nonneg] | refine aK_sub (by assumption) ?_ | refine aix_strn (fun _ _ => ?_) | ((with_reducible refine adraw_seq ?_ ?_ ?_); (· kernel_rfl); (· decide +kernel)) | simp -implicitDefEqProofs only [go_sem, slCells_own, aapp_own] | (with_reducible refine And.intro (by omega) ?_) | refine And.intro (by omega) (And.intro (by omega) ?_) | refine acond_split (fun _ => ?_) (fun _ => ?_) | refine agrd_bt (fun _ => ?_) (fun _ => ?_) | refine agrd_bf (fun _ => ?_) (fun _ => ?_) | refine retK_eq ?_ | refine retK_back (by assumption) ?_ | refine retK_eq2 ?_ | refine retK_back2 (by assumption) ?_ | (with_reducible refine And.intro ?_ ?_))
  have cb_a : (cntL (a) : Int) ≤ 1000000000000 := by have := cnt_le_S (x := a) hz_a; omega
  refine ACallK.of (markIntS_ok _ u4 (a) 1 S4 _ o4 f4.1 (by omega) (by omega)).cl ?_
  rintro _ H8 ⟨⟨rfl, g8, o4'⟩, k8⟩
  have g8 := g8.upd f4.1
  have e8 : H7.nxt ≤ H8.nxt := g8.1
  have z8 : Sub H H8 := (g8.sub hw z7 (fun b hb => by have := f4.2 b hb; omega)).1
  have xb2 := g8.2.1 _ _ (fun hm => by have := f4.2 _ hm; omega) xb2
  have xb5 := g8.2.1 _ _ (fun hm => by have := l4 _ hm; omega) xb5
  have o2 := g8.ownV o2 (fun b hb hc => by have h1 := l2 b hb; have h2 := l4 b hc; have h3 := f2.2 b hb; have h4 := f4.2 b hc; omega)
  have o4 := o4'
  have o5 := g8.ownV o5 (fun b hb hc => by have h1 := l5 b hb; have h2 := l4 b hc; have h3 := f5.2 b hb; have h4 := f4.2 b hc; omega)
  repeat' (first | simp -implicitDefEqProofs only [go_sem] | (simp -implicitDefEqProofs only [xb2, take_n n2, n2, xb5, take_n n5, n5, List.drop_zero, Nat.le_refl]) | refine acond_decF (by omega) ?_ | refine acond_decT (by omega) ?_ | refine acond_ndecF (by omega) ?_ | refine acond_ndecT (by omega) ?_ | refine acond_dec (fun _ => ?_) (fun _ => ?_) | refine acond_ndec (fun _ => ?_) (fun _ => ?_) | refine agrd_dec (fun _ => ?_) (fun _ => ?_) | refine agrd_decf (fun _ => ?_) (fun _ => ?_) | refine agrd_ndec (fun _ => ?_) (fun _ => ?_) | refine agrd_ndecf (fun _ => ?_) (fun _ => ?_) | refine abi_len_sl' (by assumption) ?_ | refine aixs_sln (by assumption) ?_ | refine afa_sl (by assumption) ?_ | (refine aK_sl (by assumption) (by omega) ?_; first | rintro _ ⟨rfl, _⟩ | (intro _ hx; obtain ⟨_, rfl, _, _⟩ := EvD.out hx) | (intro _ hx; obtain ⟨_, _, rfl, _, _, _⟩ := JobD.out hx) | rintro _ ⟨_, rfl, _⟩) | rw [SlR.one (by assumption)] | rw [SlR.leaf (by assumption)] | simp -implicitDefEqProofs (disch := omega) only [wrap_in, u8_small, Int.tmod_eq_emod_of_nonneg, Int.tdiv_eq_ediv_of_nonneg] | refine aK_sub (by assumption) ?_ | refine aix_strn (fun _ _ => ?_) | ((with_reducible refine adraw_seq ?_ ?_ ?_); (· kernel_rfl); (· decide +kernel)) | simp -implicitDefEqProofs only [go_sem, slCells_own, aapp_own] | (with_reducible refine And.intro (by omega) ?_) | refine And.intro (by omega) (And.intro (by omega) ?_) | refine acond_split (fun _ => ?_) (fun _ => ?_) | refine agrd_bt (fun _ => ?_) (fun _ => ?_) | refine agrd_bf (fun _ => ?_) (fun _ => ?_) | refine retK_eq ?_ | refine retK_back (by assumption) ?_ | refine retK_eq2 ?_ | refine retK_back2 (by assumption) ?_ | (with_reducible refine And.intro ?_ ?_))
  all_goals first | (exfalso; omega) | skip
  refine ACallK.eq (eqModel_ok _ u5 u2 (modelOf a) (modelOf a) _ (Own.rep o5) (Own.rep o2)) ?_
  rw [decide_eq_true rfl]
  repeat' (first | simp -implicitDefEqProofs only [go_sem] | (simp -implicitDefEqProofs only [xb2, take_n n2, n2, xb5, take_n n5, n5, List.drop_zero, Nat.le_refl]) | refine acond_decF (by omega) ?_ | refine acond_decT (by omega) ?_ | refine acond_ndecF (by omega) ?_ | refine acond_ndecT (by omega) ?_ | refine acond_dec (fun _ => ?_) (fun _ => ?_) | refine acond_ndec (fun _ => ?_) (fun _ => ?_) | refine agrd_dec (fun _ => ?_) (fun _ => ?_) | refine agrd_decf (fun _ => ?_) (fun _ => ?_) | refine agrd_ndec (fun _ => ?_) (fun _ => ?_) | refine agrd_ndecf (fun _ => ?_) (fun _ => ?_) | refine abi_len_sl' (by assumption) ?_ | refine aixs_sln (by assumption) ?_ | refine afa_sl (by assumption) ?_ | (refine aK_sl (by assumption) (by omega) ?_; first | rintro _ ⟨rfl, _⟩ | (intro _ hx; obtain ⟨_, rfl, _, _⟩ := EvD.out hx) | (intro _ hx; obtain ⟨_, _, rfl, _, _, _⟩ := JobD.out hx) | rintro _ ⟨_, rfl, _⟩) | rw [SlR.one (by assumption)] | rw [SlR.leaf (by assumption)] | simp -implicitDefEqProofs (disch := omega) only [wrap_in, u8_small, Int.tmod_eq_emod_of_nonneg, Int.tdiv_eq_ediv_of_nonneg] | refine aK_sub (by assumption) ?_ | refine aix_strn (fun _ _ => ?_) | ((with_reducible refine adraw_seq ?_ ?_ ?_); (· kernel_rfl); (· decide +kernel)) | simp -implicitDefEqProofs only [go_sem, slCells_own, aapp_own] | (with_reducible refine And.intro (by omega) ?_) | refine And.intro (by omega) (And.intro (by omega) ?_) | refine acond_split (fun _ => ?_) (fun _ => ?_) | refine agrd_bt (fun _ => ?_) (fun _ => ?_) | refine agrd_bf (fun _ => ?_) (fun _ => ?_) | refine retK_eq ?_ | refine retK_back (by assumption) ?_ | refine retK_eq2 ?_ | refine retK_back2 (by assumption) ?_ | (with_reducible refine And.intro ?_ ?_))
  have cg0 : (Mk.cnt (modelOf a) : Int) ≤ 1000000000000 := by have := cnt_modelOf a; omega
  refine ACallK.of (markModel_ok _ u5 (modelOf a) 1 S5 _ o5 f5.1 (by omega) (by omega)).cl ?_
  rintro _ H9 ⟨⟨rfl, g9, o5'⟩, k9⟩
  have e9 : H8.nxt ≤ H9.nxt := g9.1
  have z9 : Sub H H9 := (g9.sub hw z8 (fun b hb => by have := f5.2 b hb; omega)).1
  have xb2 := g9.2.1 _ _ (fun hm => by have := f5.2 _ hm; omega) xb2
  have xb5 := g9.2.1 _ _ (fun hm => by have := l5 _ hm; omega) xb5
  have o2 := g9.ownV o2 (fun b hb hc => by have h1 := l2 b hb; have h2 := l5 b hc; have h3 := f2.2 b hb; have h4 := f5.2 b hc; omega)
  have o5 := o5'
  repeat' (first | simp -implicitDefEqProofs only [go_sem] | (simp -implicitDefEqProofs only [xb2, take_n n2, n2, xb5, take_n n5, n5, List.drop_zero, Nat.le_refl]) | refine acond_decF (by omega) ?_ | refine acond_decT (by omega) ?_ | refine acond_ndecF (by omega) ?_ | refine acond_ndecT (by omega) ?_ | refine acond_dec (fun _ => ?_) (fun _ => ?_) | refine acond_ndec (fun _ => ?_) (fun _ => ?_) | refine agrd_dec (fun _ => ?_) (fun _ => ?_) | refine agrd_decf (fun _ => ?_) (fun _ => ?_) | refine agrd_ndec (fun _ => ?_) (fun _ => ?_) | refine agrd_ndecf (fun _ => ?_) (fun _ => ?_) | refine abi_len_sl' (by assumption) ?_ | refine aixs_sln (by assumption) ?_ | refine afa_sl (by assumption) ?_ | (refine aK_sl (by assumption) (by omega) ?_; first | rintro _ ⟨rfl, _⟩ | (intro _ hx; obtain ⟨_, rfl, _, _⟩ := EvD.out hx) | (intro _ hx; obtain ⟨_, _, rfl, _, _, _⟩ := JobD.out hx) | rintro _ ⟨_, rfl, _⟩) | rw [SlR.one (by assumption)] | rw [SlR.leaf (by assumption)] | simp -implicitDefEqProofs (disch := omega) only [wrap_in, u8_small, Int.tmod_eq_emod_of_nonneg, Int.tdiv_eq_ediv_of_nonneg] | refine aK_sub (by assumption) ?_ | refine aix_strn (fun _ _ => ?_) | ((with_reducible refine adraw_seq ?_ ?_ ?_); (· kernel_rfl); (· decide +kernel)) | simp -implicitDefEqProofs only [go_sem, slCells_own, aapp_own] | (with_reducible refine And.intro (by omega) ?_) | refine And.intro (by omega) (And.intro (by omega) ?_) | refine acond_split (fun _ => ?_) (fun _ => ?_) | refine agrd_bt (fun _ => ?_) (fun _ => ?_) | refine agrd_bf (fun _ => ?_) (fun _ => ?_) | refine retK_eq ?_ | refine retK_back (by assumption) ?_ | refine retK_eq2 ?_ | refine retK_back2 (by assumption) ?_ | (with_reducible refine And.intro ?_ ?_))
  refine ACallK.eq (heldModel_ok _ u5 (modelOf a) 1 _ (Own.rep o5) (by omega) (by omega)) ?_
  repeat' (first | simp -implicitDefEqProofs only [go_sem] | (simp -implicitDefEqProofs only [xb2, take_n n2, n2, xb5, take_n n5, n5, List.drop_zero, Nat.le_refl]) | refine acond_decF (by omega) ?_ | refine acond_decT (by omega) ?_ | refine acond_ndecF (by omega) ?_ | refine acond_ndecT (by omega) ?_ | refine acond_dec (fun _ => ?_) (fun _ => ?_) | refine acond_ndec (fun _ => ?_) (fun _ => ?_) | refine agrd_dec (fun _ => ?_) (fun _ => ?_) | refine agrd_decf (fun _ => ?_) (fun _ => ?_) | refine agrd_ndec (fun _ => ?_) (fun _ => ?_) | refine agrd_ndecf (fun _ => ?_) (fun _ => ?_) | refine abi_len_sl' (by assumption) ?_ | refine aixs_sln (by assumption) ?_ | refine afa_sl (by assumption) ?_ | (refine aK_sl (by assumption) (by omega) ?_; first | rintro _ ⟨rfl, _⟩ | (intro _ hx; obtain ⟨_, rfl, _, _⟩ := EvD.out hx) | (intro _ hx; obtain ⟨_, _, rfl, _, _, _⟩ := JobD.out hx) | rintro _ ⟨_, rfl, _⟩) | rw [SlR.one (by assumption)] | rw [SlR.leaf (by assumption)] | simp -implicitDefEqProofs (disch := omega) only [wrap_in, u8_small, Int.tmod_eq_emod_of_nonneg, Int.tdiv_eq_ediv_of_nonneg] | refine aK_sub (by assumption) ?_ | refine aix_strn (fun _ _ => ?_) | ((with_reducible refine adraw_seq ?_ ?_ ?_); (· kernel_rfl); (· decide +kernel)) | simp -implicitDefEqProofs only [go_sem, slCells_own, aapp_own] | (with_reducible refine And.intro (by omega) ?_) | refine And.intro (by omega) (And.intro (by omega) ?_) | refine acond_split (fun _ => ?_) (fun _ => ?_) | refine agrd_bt (fun _ => ?_) (fun _ => ?_) | refine agrd_bf (fun _ => ?_) (fun _ => ?_) | refine retK_eq ?_ | refine retK_back (by assumption) ?_ | refine retK_eq2 ?_ | refine retK_back2 (by assumption) ?_ | (with_reducible refine And.intro ?_ ?_))
  refine ACallK.of (toIntS_new _ _ a _ (ha.sub z9) hz_a).cl ?_
  rintro u10 H10 ⟨⟨s10, S10, o10, f10⟩, k10⟩
  have e10 : H9.nxt ≤ H10.nxt := s10.1
  have z10 : Sub H H10 := z9.trans s10
  have o2 := Own.sub o2 s10
  have o5 := Own.sub o5 s10
  have xb2 := s10.2 _ _ xb2
  have xb5 := s10.2 _ _ xb5
  have l10 : ∀ b ∈ S10, b < H10.nxt := fun b hb => k10.1.lt' (o10.isin b hb)
  repeat' (first | simp -implicitDefEqProofs only [go_sem] | (simp -implicitDefEqProofs only [xb2, take_n n2, n2, xb5, take_n n5, n5, List.drop_zero, Nat.le_refl]) | refine acond_decF (by omega) ?_ | refine acond_decT (by omega) ?_ | refine acond_ndecF (by omega) ?_ | refine acond_ndecT (by omega) ?_ | refine acond_dec (fun _ => ?_) (fun _ => ?_) | refine acond_ndec (fun _ => ?_) (fun _ => ?_) | refine agrd_dec (fun _ => ?_) (fun _ => ?_) | refine agrd_decf (fun _ => ?_) (fun _ => ?_) | refine agrd_ndec (fun _ => ?_) (fun _ => ?_) | refine agrd_ndecf (fun _ => ?_) (fun _ => ?_) | refine abi_len_sl' (by assumption) ?_ | refine aixs_sln (by assumption) ?_ | refine afa_sl (by assumption) ?_ | (refine aK_sl (by assumption) (by omega) ?_; first | rintro _ ⟨rfl, _⟩ | (intro _ hx; obtain ⟨_, rfl, _, _⟩ := EvD.out hx) | (intro _ hx; obtain ⟨_, _, rfl, _, _, _⟩ := JobD.out hx) | rintro _ ⟨_, rfl, _⟩) | rw [SlR.one (by assumption)] | rw [SlR.leaf (by assumption)] | simp -implicitDefEqProofs (disch := omega) only [wrap_in, u8_small, Int.tmod_eq_emod_of_nonneg, Int.tdiv_eq_ediv_of_nonneg] | refine aK_sub (by assumption) ?_ | refine aix_strn (fun _ _ => ?_) | ((with_reducible refine adraw_seq ?_ ?_ ?_); (· kernel_rfl); (· decide +kernel)) | simp -implicitDefEqProofs only [go_sem, slCells_own, aapp_own] | (with_reducible refine And.intro (by omega) ?_) | refine And.intro (by omega) (And.intro (by omega) ?_) | refine acond_split (fun _ => ?_) (fun _ => ?_) | refine agrd_bt (fun _ => ?_) (fun _ => ?_) | refine agrd_bf (fun _ => ?_) (fun _ => ?_) | refine retK_eq ?_ | refine retK_back (by assumption) ?_ | refine retK_eq2 ?_ | refine retK_back2 (by assumption) ?_ | (with_reducible refine And.intro ?_ ?_))
  refine ACallK.of (ModelOf_impl _ u10 a _ o10.slr).cl ?_
  rintro _ H11 ⟨⟨s11, S11, u11, rfl, o11, f11⟩, k11⟩
  have e11 : H10.nxt ≤ H11.nxt := s11.1
  have z11 : Sub H H11 := z10.trans s11
  have o2 := Own.sub o2 s11
  have o5 := Own.sub o5 s11
  have o10 := o10.sub s11
  have xb2 := s11.2 _ _ xb2
  have xb5 := s11.2 _ _ xb5
  have l11 : ∀ b ∈ S11, b < H11.nxt := fun b hb => k11.1.lt' (Own.isin o11 b hb)
  have n11 : u11.length = 2 := Ob.len (Own.rep (W0 := W0) o11)
  have lf11 : u11.all leafA = true := Ob.leaf (Own.rep (W0 := W0) o11)
  repeat' (first | simp -implicitDefEqProofs only [go_sem] | (with_reducible refine And.intro n11 ?_) | (with_reducible refine And.intro lf11 ?_) | (rw [wr_all _ _ (by rw [n11]; rfl)]) | refine acond_decF (by omega) ?_ | refine acond_decT (by omega) ?_ | refine acond_ndecF (by omega) ?_ | refine acond_ndecT (by omega) ?_ | refine acond_dec (fun _ => ?_) (fun _ => ?_) | refine acond_ndec (fun _ => ?_) (fun _ => ?_) | refine agrd_dec (fun _ => ?_) (fun _ => ?_) | refine agrd_decf (fun _ => ?_) (fun _ => ?_) | refine agrd_ndec (fun _ => ?_) (fun _ => ?_) | refine agrd_ndecf (fun _ => ?_) (fun _ => ?_) | refine abi_len_sl' (by assumption) ?_ | refine aixs_sln (by assumption) ?_ | refine afa_sl (by assumption) ?_ | (refine aK_sl (by assumption) (by omega) ?_; first | rintro _ ⟨rfl, _⟩ | (intro _ hx; obtain ⟨_, rfl, _, _⟩ := EvD.out hx) | (intro _ hx; obtain ⟨_, _, rfl, _, _, _⟩ := JobD.out hx) | rintro _ ⟨_, rfl, _⟩) | rw [SlR.one (by assumption)] | rw [SlR.leaf (by assumption)] | simp -implicitDefEqProofs (disch := omega) only [wrap_in, u8_small, Int.tmod_eq_emod_of_nonneg, Int.tdiv_eq_ediv_of_nonneg] | refine aK_sub (by assumption) ?_ | refine aix_strn (fun _ _ => ?_) | ((with_reducible refine adraw_seq ?_ ?_ ?_); (· kernel_rfl); (· decide +kernel)) | simp -implicitDefEqProofs only [go_sem, slCells_own, aapp_own] | (with_reducible refine And.intro (by omega) ?_) | refine And.intro (by omega) (And.intro (by omega) ?_) | refine acond_split (fun _ => ?_) (fun _ => ?_) | refine agrd_bt (fun _ => ?_) (fun _ => ?_) | refine agrd_bf (fun _ => ?_) (fun _ => ?_) | refine retK_eq ?_ | refine retK_back (by assumption) ?_ | refine retK_eq2 ?_ | refine retK_back2 (by assumption) ?_ | (with_reducible refine And.intro ?_ ?_))
  obtain ⟨H12, hH12⟩ : ∃ X, X = H11.new u11 2 := ⟨_, rfl⟩
  rw [← hH12]
  have k12 : H12.wf ∧ True := ⟨by rw [hH12]; exact k11.1.new _ _, trivial⟩
  have s12 : Sub H11 H12 := by rw [hH12]; exact (Sub.refl _).new k11.1 _ _
  have xb11 : H12.blk H11.nxt = some ⟨u11, 2⟩ := by rw [hH12]; exact blk_new_self _ _ _
  have hlt12 : H11.nxt < H12.nxt := by rw [hH12]; exact Nat.lt_succ_self _
  clear hH12
  have e12 : H11.nxt ≤ H12.nxt := s12.1
  have z12 : Sub H H12 := z11.trans s12
  have o2 := Own.sub o2 s12
  have o5 := Own.sub o5 s12
  have o11 := Own.sub o11 s12
  have xb2 := s12.2 _ _ xb2
  have xb5 := s12.2 _ _ xb5
  repeat' (first | simp -implicitDefEqProofs only [go_sem] | (simp -implicitDefEqProofs only [xb2, take_n n2, n2, xb5, take_n n5, n5, xb11, take_n n11, n11, List.drop_zero, Nat.le_refl]) | refine acond_decF (by omega) ?_ | refine acond_decT (by omega) ?_ | refine acond_ndecF (by omega) ?_ | refine acond_ndecT (by omega) ?_ | refine acond_dec (fun _ => ?_) (fun _ => ?_) | refine acond_ndec (fun _ => ?_) (fun _ => ?_) | refine agrd_dec (fun _ => ?_) (fun _ => ?_) | refine agrd_decf (fun _ => ?_) (fun _ => ?_) | refine agrd_ndec (fun _ => ?_) (fun _ => ?_) | refine agrd_ndecf (fun _ => ?_) (fun _ => ?_) | refine abi_len_sl' (by assumption) ?_ | refine aixs_sln (by assumption) ?_ | refine afa_sl (by assumption) ?_ | (refine aK_sl (by assumption) (by omega) ?_; first | rintro _ ⟨rfl, _⟩ | (intro _ hx; obtain ⟨_, rfl, _, _⟩ := EvD.out hx) | (intro _ hx; obtain ⟨_, _, rfl, _, _, _⟩ := JobD.out hx) | rintro _ ⟨_, rfl, _⟩) | rw [SlR.one (by assumption)] | rw [SlR.leaf (by assumption)] | simp -implicitDefEqProofs (disch := omega) only [wrap_in, u8_small, Int.tmod_eq_emod_of_nonneg, Int.tdiv_eq_ediv_of_nonneg] | refine aK_sub (by assumption) ?_ | refine aix_strn (fun _ _ => ?_) | ((with_reducible refine adraw_seq ?_ ?_ ?_); (· kernel_rfl); (· decide +kernel)) | simp -implicitDefEqProofs only [go_sem, slCells_own, aapp_own] | (with_reducible refine And.intro (by omega) ?_) | refine And.intro (by omega) (And.intro (by omega) ?_) | refine acond_split (fun _ => ?_) (fun _ => ?_) | refine agrd_bt (fun _ => ?_) (fun _ => ?_) | refine agrd_bf (fun _ => ?_) (fun _ => ?_) | refine retK_eq ?_ | refine retK_back (by assumption) ?_ | refine retK_eq2 ?_ | refine retK_back2 (by assumption) ?_ | (with_reducible refine And.intro ?_ ?_))
  refine ACallK.eq (eqModel_ok _ u11 u2 (modelOf a) (modelOf a) _ (Own.rep o11) (Own.rep o2)) ?_
  rw [decide_eq_true rfl]
  repeat' (first | simp -implicitDefEqProofs only [go_sem] | (simp -implicitDefEqProofs only [xb2, take_n n2, n2, xb5, take_n n5, n5, xb11, take_n n11, n11, List.drop_zero, Nat.le_refl]) | refine acond_decF (by omega) ?_ | refine acond_decT (by omega) ?_ | refine acond_ndecF (by omega) ?_ | refine acond_ndecT (by omega) ?_ | refine acond_dec (fun _ => ?_) (fun _ => ?_) | refine acond_ndec (fun _ => ?_) (fun _ => ?_) | refine agrd_dec (fun _ => ?_) (fun _ => ?_) | refine agrd_decf (fun _ => ?_) (fun _ => ?_) | refine agrd_ndec (fun _ => ?_) (fun _ => ?_) | refine agrd_ndecf (fun _ => ?_) (fun _ => ?_) | refine abi_len_sl' (by assumption) ?_ | refine aixs_sln (by assumption) ?_ | refine afa_sl (by assumption) ?_ | (refine aK_sl (by assumption) (by omega) ?_; first | rintro _ ⟨rfl, _⟩ | (intro _ hx; obtain ⟨_, rfl, _, _⟩ := EvD.out hx) | (intro _ hx; obtain ⟨_, _, rfl, _, _, _⟩ := JobD.out hx) | rintro _ ⟨_, rfl, _⟩) | rw [SlR.one (by assumption)] | rw [SlR.leaf (by assumption)] | simp -implicitDefEqProofs (disch := omega) only [wrap_in, u8_small, Int.tmod_eq_emod_of_nonneg, Int.tdiv_eq_ediv_of_nonneg] | refine aK_sub (by assumption) ?_ | refine aix_strn (fun _ _ => ?_) | ((with_reducible refine adraw_seq ?_ ?_ ?_); (· kernel_rfl); (· decide +kernel)) | simp -implicitDefEqProofs only [go_sem, slCells_own, aapp_own] | (with_reducible refine And.intro (by omega) ?_) | refine And.intro (by omega) (And.intro (by omega) ?_) | refine acond_split (fun _ => ?_) (fun _ => ?_) | refine agrd_bt (fun _ => ?_) (fun _ => ?_) | refine agrd_bf (fun _ => ?_) (fun _ => ?_) | refine retK_eq ?_ | refine retK_back (by assumption) ?_ | refine retK_eq2 ?_ | refine retK_back2 (by assumption) ?_ | (with_reducible refine And.intro ?_ ?_))
  refine ACallK.eq (heldModel_ok _ u5 (modelOf a) 1 _ (Own.rep o5) (by omega) (by omega)) ?_
  repeat' (first | simp -implicitDefEqProofs only [go_sem] | (simp -implicitDefEqProofs only [xb2, take_n n2, n2, xb5, take_n n5, n5, xb11, take_n n11, n11, List.drop_zero, Nat.le_refl]) | refine acond_decF (by omega) ?_ | refine acond_decT (by omega) ?_ | refine acond_ndecF (by omega) ?_ | refine acond_ndecT (by omega) ?_ | refine acond_dec (fun _ => ?_) (fun _ => ?_) | refine acond_ndec (fun _ => ?_) (fun _ => ?_) | refine agrd_dec (fun _ => ?_) (fun _ => ?_) | refine agrd_decf (fun _ => ?_) (fun _ => ?_) | refine agrd_ndec (fun _ => ?_) (fun _ => ?_) | refine agrd_ndecf (fun _ => ?_) (fun _ => ?_) | refine abi_len_sl' (by assumption) ?_ | refine aixs_sln (by assumption) ?_ | refine afa_sl (by assumption) ?_ | (refine aK_sl (by assumption) (by omega) ?_; first | rintro _ ⟨rfl, _⟩ | (intro _ hx; obtain ⟨_, rfl, _, _⟩ := EvD.out hx) | (intro _ hx; obtain ⟨_, _, rfl, _, _, _⟩ := JobD.out hx) | rintro _ ⟨_, rfl, _⟩) | rw [SlR.one (by assumption)] | rw [SlR.leaf (by assumption)] | simp -implicitDefEqProofs (disch := omega) only [wrap_in, u8_small, Int.tmod_eq_emod_of_nonneg, Int.tdiv_eq_ediv_of_nonneg] | refine aK_sub (by assumption) ?_ | refine aix_strn (fun _ _ => ?_) | ((with_reducible refine adraw_seq ?_ ?_ ?_); (· kernel_rfl); (· decide +kernel)) | simp -implicitDefEqProofs only [go_sem, slCells_own, aapp_own] | (with_reducible refine And.intro (by omega) ?_) | refine And.intro (by omega) (And.intro (by omega) ?_) | refine acond_split (fun _ => ?_) (fun _ => ?_) | refine agrd_bt (fun _ => ?_) (fun _ => ?_) | refine agrd_bf (fun _ => ?_) (fun _ => ?_) | refine retK_eq ?_ | refine retK_back (by assumption) ?_ | refine retK_eq2 ?_ | refine retK_back2 (by assumption) ?_ | (with_reducible refine And.intro ?_ ?_))
  exact retK_one rfl
end Go.Proofs.YtipfnhfcoolhaaaGreat.Aw
end
section
namespace Go.Proofs.YtipfnhfcoolhaaaGreat.Aw
open Go Go.RowKit
set_option maxRecDepth 100000
theorem opens_Op : Opens Tryz.prog OpD 172 := by
  intro D enc W spare held fuel cs r h
  have hl := trod_len h fldt_172_0
  rw [cellsOf_tyi tyi_172] at hl
  obtain ⟨g0, q0, t0⟩ := trod_field h fldt_172_0
  rw [cellsOf_tyi tyi_3] at t0
  obtain ⟨x0, hx0⟩ := (opens_int (of_intKd intKd_3)) enc W spare held _ _ _ t0
  obtain ⟨g1, q1, t1⟩ := trod_field h fldt_172_1
  rw [cellsOf_tyi tyi_9] at t1
  obtain ⟨x1, hx1⟩ := (opens_str (of_isStr isStr_9)) enc W spare held _ _ _ t1
  obtain ⟨g2, q2, t2⟩ := trod_field h fldt_172_2
  rw [cellsOf_tyi tyi_3] at t2
  obtain ⟨x2, hx2⟩ := (opens_int (of_intKd intKd_3)) enc W spare held _ _ _ t2
  obtain ⟨g3, q3, t3⟩ := trod_field h fldt_172_3
  rw [cellsOf_tyi tyi_3] at t3
  obtain ⟨x3, hx3⟩ := (opens_int (of_intKd intKd_3)) enc W spare held _ _ _ t3
  refine ⟨⟨x0, x1, x2, x3⟩, fun H => ?_⟩
  obtain ⟨e0, b0⟩ := hx0 H
  obtain ⟨e1, b1⟩ := hx1 H
  obtain ⟨e2, b2⟩ := hx2 H
  obtain ⟨e3, b3⟩ := hx3 H
  have all : cs.map AV.v = ((cs.drop 0).take 1).map AV.v ++ ((cs.drop 1).take 1).map AV.v ++ ((cs.drop 2).take 1).map AV.v ++ ((cs.drop 3).take 1).map AV.v := by
    rw [← List.map_append, ← List.map_append, ← List.map_append]
    congr 1
    simp only [List.drop_zero, ← List.take_add, Nat.reduceAdd]
    rw [List.take_of_length_le (by omega)]
  rw [e0, e1, e2, e3] at all
  exact ⟨all, b0, b1, b2, b3⟩
theorem opens_Row : Opens Tryz.prog RowD 233 := by
  intro D enc W spare held fuel cs r h
  have hl := trod_len h fldt_233_0
  rw [cellsOf_tyi tyi_233] at hl
  obtain ⟨g0, q0, t0⟩ := trod_field h fldt_233_0
  rw [cellsOf_tyi tyi_9] at t0
  obtain ⟨x0, hx0⟩ := (opens_str (of_isStr isStr_9)) enc W spare held _ _ _ t0
  obtain ⟨g1, q1, t1⟩ := trod_field h fldt_233_1
  rw [cellsOf_tyi tyi_3] at t1
  obtain ⟨x1, hx1⟩ := (opens_int (of_intKd intKd_3)) enc W spare held _ _ _ t1
  obtain ⟨g2, q2, t2⟩ := trod_field h fldt_233_2
  rw [cellsOf_tyi tyi_3] at t2
  obtain ⟨x2, hx2⟩ := (opens_int (of_intKd intKd_3)) enc W spare held _ _ _ t2
  obtain ⟨g3, q3, t3⟩ := trod_field h fldt_233_3
  rw [cellsOf_tyi tyi_4] at t3
  obtain ⟨x3, hx3⟩ := (opens_bool und_4) enc W spare held _ _ _ t3
  obtain ⟨g4, q4, t4⟩ := trod_field h fldt_233_4
  rw [cellsOf_tyi tyi_3] at t4
  obtain ⟨x4, hx4⟩ := (opens_int (of_intKd intKd_3)) enc W spare held _ _ _ t4
  obtain ⟨g5, q5, t5⟩ := trod_field h fldt_233_5
  rw [cellsOf_tyi tyi_3] at t5
  obtain ⟨x5, hx5⟩ := (opens_int (of_intKd intKd_3)) enc W spare held _ _ _ t5
  obtain ⟨g6, q6, t6⟩ := trod_field h fldt_233_6
  rw [cellsOf_tyi tyi_3] at t6
  obtain ⟨x6, hx6⟩ := (opens_int (of_intKd intKd_3)) enc W spare held _ _ _ t6
  obtain ⟨g7, q7, t7⟩ := trod_field h fldt_233_7
  rw [cellsOf_tyi tyi_3] at t7
  obtain ⟨x7, hx7⟩ := (opens_int (of_intKd intKd_3)) enc W spare held _ _ _ t7
  obtain ⟨g8, q8, t8⟩ := trod_field h fldt_233_8
  rw [cellsOf_tyi tyi_3] at t8
  obtain ⟨x8, hx8⟩ := (opens_int (of_intKd intKd_3)) enc W spare held _ _ _ t8
  obtain ⟨g9, q9, t9⟩ := trod_field h fldt_233_9
  rw [cellsOf_tyi tyi_3] at t9
  obtain ⟨x9, hx9⟩ := (opens_int (of_intKd intKd_3)) enc W spare held _ _ _ t9
  refine ⟨⟨x0, x1, x2, x3, x4, x5, x6, x7, x8, x9⟩, fun H => ?_⟩
  obtain ⟨e0, b0⟩ := hx0 H
  obtain ⟨e1, b1⟩ := hx1 H
  obtain ⟨e2, b2⟩ := hx2 H
  have e3 := hx3 H
  obtain ⟨e4, b4⟩ := hx4 H
  obtain ⟨e5, b5⟩ := hx5 H
  obtain ⟨e6, b6⟩ := hx6 H
  obtain ⟨e7, b7⟩ := hx7 H
  obtain ⟨e8, b8⟩ := hx8 H
  obtain ⟨e9, b9⟩ := hx9 H
  have all : cs.map AV.v = ((cs.drop 0).take 1).map AV.v ++ ((cs.drop 1).take 1).map AV.v ++ ((cs.drop 2).take 1).map AV.v ++ ((cs.drop 3).take 1).map AV.v ++ ((cs.drop 4).take 1).map AV.v ++ ((cs.drop 5).take 1).map AV.v ++ ((cs.drop 6).take 1).map AV.v ++ ((cs.drop 7).take 1).map AV.v ++ ((cs.drop 8).take 1).map AV.v ++ ((cs.drop 9).take 1).map AV.v := by
    rw [← List.map_append, ← List.map_append, ← List.map_append, ← List.map_append, ← List.map_append, ← List.map_append, ← List.map_append, ← List.map_append, ← List.map_append]
    congr 1
    simp only [List.drop_zero, ← List.take_add, Nat.reduceAdd]
    rw [List.take_of_length_le (by omega)]
  rw [e0, e1, e2, e3, e4, e5, e6, e7, e8, e9] at all
  exact ⟨all, b0, b1, b2, b4, b5, b6, b7, b8, b9⟩
theorem opens_Queue : Opens Tryz.prog QueueD 158 := by
  intro D enc W spare held fuel cs r h
  have hl := trod_len h fldt_158_0
  rw [cellsOf_tyi tyi_158] at hl
  obtain ⟨g0, q0, t0⟩ := trod_field h fldt_158_0
  rw [cellsOf_tyi tyi_156] at t0
  obtain ⟨x0, hx0⟩ := (opens_list (of_elt elt_156) (opens_Op) (cellsOf_tyi tyi_172)) enc W spare held _ _ _ t0
  refine ⟨⟨x0⟩, fun H => ?_⟩
  obtain ⟨v0, e0, b0⟩ := hx0 H
  have all : cs.map AV.v = ((cs.drop 0).take 1).map AV.v := by
    skip
    congr 1
    simp only [List.drop_zero, ← List.take_add, Nat.reduceAdd]
    rw [List.take_of_length_le (by omega)]
  rw [e0] at all
  exact ⟨v0, all, b0⟩
theorem opens_Job : Opens Tryz.prog JobD 174 := by
  intro D enc W spare held fuel cs r h
  have hl := trod_len h fldt_174_0
  rw [cellsOf_tyi tyi_174] at hl
  obtain ⟨g0, q0, t0⟩ := trod_field h fldt_174_0
  rw [cellsOf_tyi tyi_4] at t0
  obtain ⟨x0, hx0⟩ := (opens_bool und_4) enc W spare held _ _ _ t0
  obtain ⟨g1, q1, t1⟩ := trod_field h fldt_174_1
  rw [cellsOf_tyi tyi_172] at t1
  obtain ⟨x1, hx1⟩ := (opens_Op) enc W spare held _ _ _ t1
  obtain ⟨g2, q2, t2⟩ := trod_field h fldt_174_2
  rw [cellsOf_tyi tyi_3] at t2
  obtain ⟨x2, hx2⟩ := (opens_int (of_intKd intKd_3)) enc W spare held _ _ _ t2
  obtain ⟨g3, q3, t3⟩ := trod_field h fldt_174_3
  rw [cellsOf_tyi tyi_3] at t3
  obtain ⟨x3, hx3⟩ := (opens_int (of_intKd intKd_3)) enc W spare held _ _ _ t3
  obtain ⟨g4, q4, t4⟩ := trod_field h fldt_174_4
  rw [cellsOf_tyi tyi_3] at t4
  obtain ⟨x4, hx4⟩ := (opens_int (of_intKd intKd_3)) enc W spare held _ _ _ t4
  obtain ⟨g5, q5, t5⟩ := trod_field h fldt_174_5
  rw [cellsOf_tyi tyi_3] at t5
  obtain ⟨x5, hx5⟩ := (opens_int (of_intKd intKd_3)) enc W spare held _ _ _ t5
  obtain ⟨g6, q6, t6⟩ := trod_field h fldt_174_6
  rw [cellsOf_tyi tyi_3] at t6
  obtain ⟨x6, hx6⟩ := (opens_int (of_intKd intKd_3)) enc W spare held _ _ _ t6
  obtain ⟨g7, q7, t7⟩ := trod_field h fldt_174_7
  rw [cellsOf_tyi tyi_3] at t7
  obtain ⟨x7, hx7⟩ := (opens_int (of_intKd intKd_3)) enc W spare held _ _ _ t7
  obtain ⟨g8, q8, t8⟩ := trod_field h fldt_174_8
  rw [cellsOf_tyi tyi_3] at t8
  obtain ⟨x8, hx8⟩ := (opens_int (of_intKd intKd_3)) enc W spare held _ _ _ t8
  obtain ⟨g9, q9, t9⟩ := trod_field h fldt_174_9
  rw [cellsOf_tyi tyi_3] at t9
  obtain ⟨x9, hx9⟩ := (opens_int (of_intKd intKd_3)) enc W spare held _ _ _ t9
  obtain ⟨g10, q10, t10⟩ := trod_field h fldt_174_10
  rw [cellsOf_tyi tyi_3] at t10
  obtain ⟨x10, hx10⟩ := (opens_int (of_intKd intKd_3)) enc W spare held _ _ _ t10
  obtain ⟨g11, q11, t11⟩ := trod_field h fldt_174_11
  rw [cellsOf_tyi tyi_3] at t11
  obtain ⟨x11, hx11⟩ := (opens_int (of_intKd intKd_3)) enc W spare held _ _ _ t11
  obtain ⟨g12, q12, t12⟩ := trod_field h fldt_174_12
  rw [cellsOf_tyi tyi_3] at t12
  obtain ⟨x12, hx12⟩ := (opens_int (of_intKd intKd_3)) enc W spare held _ _ _ t12
  obtain ⟨g13, q13, t13⟩ := trod_field h fldt_174_13
  rw [cellsOf_tyi tyi_22] at t13
  obtain ⟨x13, hx13⟩ := (opens_list (of_elt elt_22) (opens_int (of_intKd intKd_3)) (cellsOf_tyi tyi_3)) enc W spare held _ _ _ t13
  obtain ⟨g14, q14, t14⟩ := trod_field h fldt_174_14
  rw [cellsOf_tyi tyi_22] at t14
  obtain ⟨x14, hx14⟩ := (opens_list (of_elt elt_22) (opens_int (of_intKd intKd_3)) (cellsOf_tyi tyi_3)) enc W spare held _ _ _ t14
  refine ⟨⟨x0, x1, x2, x3, x4, x5, x6, x7, x8, x9, x10, x11, x12, x13, x14⟩, fun H => ?_⟩
  have e0 := hx0 H
  obtain ⟨e1, b1_0, b1_1, b1_2, b1_3⟩ := hx1 H
  obtain ⟨e2, b2⟩ := hx2 H
  obtain ⟨e3, b3⟩ := hx3 H
  obtain ⟨e4, b4⟩ := hx4 H
  obtain ⟨e5, b5⟩ := hx5 H
  obtain ⟨e6, b6⟩ := hx6 H
  obtain ⟨e7, b7⟩ := hx7 H
  obtain ⟨e8, b8⟩ := hx8 H
  obtain ⟨e9, b9⟩ := hx9 H
  obtain ⟨e10, b10⟩ := hx10 H
  obtain ⟨e11, b11⟩ := hx11 H
  obtain ⟨e12, b12⟩ := hx12 H
  obtain ⟨v13, e13, b13⟩ := hx13 H
  obtain ⟨v14, e14, b14⟩ := hx14 H
  have all : cs.map AV.v = ((cs.drop 0).take 1).map AV.v ++ ((cs.drop 1).take 4).map AV.v ++ ((cs.drop 5).take 1).map AV.v ++ ((cs.drop 6).take 1).map AV.v ++ ((cs.drop 7).take 1).map AV.v ++ ((cs.drop 8).take 1).map AV.v ++ ((cs.drop 9).take 1).map AV.v ++ ((cs.drop 10).take 1).map AV.v ++ ((cs.drop 11).take 1).map AV.v ++ ((cs.drop 12).take 1).map AV.v ++ ((cs.drop 13).take 1).map AV.v ++ ((cs.drop 14).take 1).map AV.v ++ ((cs.drop 15).take 1).map AV.v ++ ((cs.drop 16).take 1).map AV.v ++ ((cs.drop 17).take 1).map AV.v := by
    rw [← List.map_append, ← List.map_append, ← List.map_append, ← List.map_append, ← List.map_append, ← List.map_append, ← List.map_append, ← List.map_append, ← List.map_append, ← List.map_append, ← List.map_append, ← List.map_append, ← List.map_append, ← List.map_append]
    congr 1
    simp only [List.drop_zero, ← List.take_add, Nat.reduceAdd]
    rw [List.take_of_length_le (by omega)]
  rw [e0, e1, e2, e3, e4, e5, e6, e7, e8, e9, e10, e11, e12, e13, e14] at all
  exact ⟨v13, v14, all, b1_0, b1_1, b1_2, b1_3, b2, b3, b4, b5, b6, b7, b8, b9, b10, b11, b12, b13, b14⟩
theorem opens_Ev : Opens Tryz.prog EvD 178 := by
  intro D enc W spare held fuel cs r h
  have hl := trod_len h fldt_178_0
  rw [cellsOf_tyi tyi_178] at hl
  obtain ⟨g0, q0, t0⟩ := trod_field h fldt_178_0
  rw [cellsOf_tyi tyi_3] at t0
  obtain ⟨x0, hx0⟩ := (opens_int (of_intKd intKd_3)) enc W spare held _ _ _ t0
  obtain ⟨g1, q1, t1⟩ := trod_field h fldt_178_1
  rw [cellsOf_tyi tyi_3] at t1
  obtain ⟨x1, hx1⟩ := (opens_int (of_intKd intKd_3)) enc W spare held _ _ _ t1
  obtain ⟨g2, q2, t2⟩ := trod_field h fldt_178_2
  rw [cellsOf_tyi tyi_3] at t2
  obtain ⟨x2, hx2⟩ := (opens_int (of_intKd intKd_3)) enc W spare held _ _ _ t2
  obtain ⟨g3, q3, t3⟩ := trod_field h fldt_178_3
  rw [cellsOf_tyi tyi_3] at t3
  obtain ⟨x3, hx3⟩ := (opens_int (of_intKd intKd_3)) enc W spare held _ _ _ t3
  obtain ⟨g4, q4, t4⟩ := trod_field h fldt_178_4
  rw [cellsOf_tyi tyi_172] at t4
  obtain ⟨x4, hx4⟩ := (opens_Op) enc W spare held _ _ _ t4
  obtain ⟨g5, q5, t5⟩ := trod_field h fldt_178_5
  rw [cellsOf_tyi tyi_3] at t5
  obtain ⟨x5, hx5⟩ := (opens_int (of_intKd intKd_3)) enc W spare held _ _ _ t5
  obtain ⟨g6, q6, t6⟩ := trod_field h fldt_178_6
  rw [cellsOf_tyi tyi_3] at t6
  obtain ⟨x6, hx6⟩ := (opens_int (of_intKd intKd_3)) enc W spare held _ _ _ t6
  obtain ⟨g7, q7, t7⟩ := trod_field h fldt_178_7
  rw [cellsOf_tyi tyi_3] at t7
  obtain ⟨x7, hx7⟩ := (opens_int (of_intKd intKd_3)) enc W spare held _ _ _ t7
  obtain ⟨g8, q8, t8⟩ := trod_field h fldt_178_8
  rw [cellsOf_tyi tyi_3] at t8
  obtain ⟨x8, hx8⟩ := (opens_int (of_intKd intKd_3)) enc W spare held _ _ _ t8
  obtain ⟨g9, q9, t9⟩ := trod_field h fldt_178_9
  rw [cellsOf_tyi tyi_176] at t9
  obtain ⟨x9, hx9⟩ := (opens_list (of_elt elt_176) (opens_Row) (cellsOf_tyi tyi_233)) enc W spare held _ _ _ t9
  refine ⟨⟨x0, x1, x2, x3, x4, x5, x6, x7, x8, x9⟩, fun H => ?_⟩
  obtain ⟨e0, b0⟩ := hx0 H
  obtain ⟨e1, b1⟩ := hx1 H
  obtain ⟨e2, b2⟩ := hx2 H
  obtain ⟨e3, b3⟩ := hx3 H
  obtain ⟨e4, b4_0, b4_1, b4_2, b4_3⟩ := hx4 H
  obtain ⟨e5, b5⟩ := hx5 H
  obtain ⟨e6, b6⟩ := hx6 H
  obtain ⟨e7, b7⟩ := hx7 H
  obtain ⟨e8, b8⟩ := hx8 H
  obtain ⟨v9, e9, b9⟩ := hx9 H
  have all : cs.map AV.v = ((cs.drop 0).take 1).map AV.v ++ ((cs.drop 1).take 1).map AV.v ++ ((cs.drop 2).take 1).map AV.v ++ ((cs.drop 3).take 1).map AV.v ++ ((cs.drop 4).take 4).map AV.v ++ ((cs.drop 8).take 1).map AV.v ++ ((cs.drop 9).take 1).map AV.v ++ ((cs.drop 10).take 1).map AV.v ++ ((cs.drop 11).take 1).map AV.v ++ ((cs.drop 12).take 1).map AV.v := by
    rw [← List.map_append, ← List.map_append, ← List.map_append, ← List.map_append, ← List.map_append, ← List.map_append, ← List.map_append, ← List.map_append, ← List.map_append]
    congr 1
    simp only [List.drop_zero, ← List.take_add, Nat.reduceAdd]
    rw [List.take_of_length_le (by omega)]
  rw [e0, e1, e2, e3, e4, e5, e6, e7, e8, e9] at all
  exact ⟨v9, all, b0, b1, b2, b3, b4_0, b4_1, b4_2, b4_3, b5, b6, b7, b8, b9⟩
theorem opens_World : Opens Tryz.prog WorldD 55 := by
  intro D enc W spare held fuel cs r h
  have hl := trod_len h fldt_55_0
  rw [cellsOf_tyi tyi_55] at hl
  obtain ⟨g0, q0, t0⟩ := trod_field h fldt_55_0
  rw [cellsOf_tyi tyi_22] at t0
  obtain ⟨x0, hx0⟩ := (opens_list (of_elt elt_22) (opens_int (of_intKd intKd_3)) (cellsOf_tyi tyi_3)) enc W spare held _ _ _ t0
  obtain ⟨g1, q1, t1⟩ := trod_field h fldt_55_1
  rw [cellsOf_tyi tyi_52] at t1
  obtain ⟨x1, hx1⟩ := (opens_list (of_elt elt_52) (opens_Job) (cellsOf_tyi tyi_174)) enc W spare held _ _ _ t1
  obtain ⟨g2, q2, t2⟩ := trod_field h fldt_55_2
  rw [cellsOf_tyi tyi_34] at t2
  obtain ⟨x2, hx2⟩ := (opens_list (of_elt elt_34) (opens_Queue) (cellsOf_tyi tyi_158)) enc W spare held _ _ _ t2
  obtain ⟨g3, q3, t3⟩ := trod_field h fldt_55_3
  rw [cellsOf_tyi tyi_53] at t3
  obtain ⟨x3, hx3⟩ := (opens_list (of_elt elt_53) (opens_Ev) (cellsOf_tyi tyi_178)) enc W spare held _ _ _ t3
  obtain ⟨g4, q4, t4⟩ := trod_field h fldt_55_4
  rw [cellsOf_tyi tyi_3] at t4
  obtain ⟨x4, hx4⟩ := (opens_int (of_intKd intKd_3)) enc W spare held _ _ _ t4
  obtain ⟨g5, q5, t5⟩ := trod_field h fldt_55_5
  rw [cellsOf_tyi tyi_3] at t5
  obtain ⟨x5, hx5⟩ := (opens_int (of_intKd intKd_3)) enc W spare held _ _ _ t5
  refine ⟨⟨x0, x1, x2, x3, x4, x5⟩, fun H => ?_⟩
  obtain ⟨v0, e0, b0⟩ := hx0 H
  obtain ⟨v1, e1, b1⟩ := hx1 H
  obtain ⟨v2, e2, b2⟩ := hx2 H
  obtain ⟨v3, e3, b3⟩ := hx3 H
  obtain ⟨e4, b4⟩ := hx4 H
  obtain ⟨e5, b5⟩ := hx5 H
  have all : cs.map AV.v = ((cs.drop 0).take 1).map AV.v ++ ((cs.drop 1).take 1).map AV.v ++ ((cs.drop 2).take 1).map AV.v ++ ((cs.drop 3).take 1).map AV.v ++ ((cs.drop 4).take 1).map AV.v ++ ((cs.drop 5).take 1).map AV.v := by
    rw [← List.map_append, ← List.map_append, ← List.map_append, ← List.map_append, ← List.map_append]
    congr 1
    simp only [List.drop_zero, ← List.take_add, Nat.reduceAdd]
    rw [List.take_of_length_le (by omega)]
  rw [e0, e1, e2, e3, e4, e5] at all
  exact ⟨v0, v1, v2, v3, all, b0, b1, b2, b3, b4, b5⟩
end Go.Proofs.YtipfnhfcoolhaaaGreat.Aw
end
