/- Parts of a proof: Fmo Fmp HInt QInt. -/
import Derived.Test.YtipfnhfcoolhaaaGreatM10
import Derived.Test.YtipfnhfcoolhaaaGreatM12
import Derived.Test.YtipfnhfcoolhaaaGreatM07
import Derived.Test.YtipfnhfcoolhaaaGreatM02
import Derived.Test.YtipfnhfcoolhaaaGreatM04
set_option linter.unusedVariables false
set_option linter.unusedSimpArgs false
section
namespace Go.Proofs.YtipfnhfcoolhaaaGreat.Aw
open Go Go.RowKit
set_option maxRecDepth 100000
set_option maxHeartbeats 2000000
attribute [-go_sem] wr_eq
def modelOf (a : List Int) : ModelD := if tableOk a = true then cellsModel a else ⟨[], []⟩
theorem ownS_none' {α : Type} [Ob α] [Own α] (H : AH) : OwnS H [] (.v (.slice none 0 0)) ([] : List α) := .inl ⟨rfl, rfl, rfl⟩
theorem tableOk_cells {a : List Int} (h : tableOk a = true) : cellsOk a = true := ((Bool.and_eq_true _ _).mp h).1
theorem untag_I2 (n : Int) : inI64 (untag n).2 := by have := untag_kind n; simp only [inI64]; omega
theorem modelOf_end {H H2 : AH} {a : List Int} {vk vr : AV} {S T : List Nat} (hw : H.wf) (ht : tableOk a = true) (s : Sub H H2) (ok : OwnS H2 S vk (keysTo a 4)) (or : OwnS H2 T vr (reportIn a (a.getD 0 0 % 2))) (hn : (S ++ T).Nodup) (hS : ∀ x ∈ S ++ T, H.nxt + 2 ≤ x) (B B' : Blk) :
    NewV H ((H2.set (H.nxt + 1) B).set H.nxt B') (.agg [vk, vr]) (modelOf a) := by
  unfold modelOf
  rw [if_pos ht]
  refine ⟨(s.set hw (Nat.le_succ _) _).set hw (Nat.le_refl _) _, S ++ T, _, rfl, ModelD.own_mk ?_ ?_, hn, fun x hx => by have := hS x hx; omega⟩
  · exact (ok.setne fun b hb => by have := hS b (List.mem_append_left _ hb); omega).setne fun b hb => by have := hS b (List.mem_append_left _ hb); omega
  · exact (or.setne fun b hb => by have := hS b (List.mem_append_right _ hb); omega).setne fun b hb => by have := hS b (List.mem_append_right _ hb); omega
theorem modelOf_none {H H2 : AH} {a : List Int} (ht : ¬ tableOk a = true) (s : Sub H H2) : NewV H H2 (.agg [.v (.slice none 0 0), .v (.slice none 0 0)]) (modelOf a) := by
  unfold modelOf
  rw [if_neg ht]
  exact ⟨s, [] ++ [], _, rfl, ModelD.own_mk (ownS_none' _) (ownS_none' _), Fresh.nil _⟩
theorem ModelOf_spec (W0 : World) (v : AV) (a : List Int) (H : AH) (ha : SlR W0 H v a) : ACalls Tryz.prog W0 9 [v] H (fun u H' => NewV H H' u (modelOf a)) := by
  refine acallw Tryz.func9 rfl (by kernel_rfl) (by kernel_rfl) fun hc hw => ?_
  have c0 := ha.one; have p0 := ha.leaf
  by_cases ht : tableOk a = true
  · have hp := tableOk_cells ht
    have hl := cellsOk_len hp
    have hI0 := getD_I ha 0
    have hW := (cellsOk_get hp 0); unfold wordP at hW
    repeat' (first | simp -implicitDefEqProofs only [go_sem] | (refine ACallK.eq (TableOk_spec _ _ a _ (ha.sub (by repeat (first | exact Sub.refl _ | assumption | refine Sub.new (by assumption) ?_ _ _ | refine Sub.kill_new (by assumption) ?_ _ _ | refine Sub.trans ?_ (by assumption))))) ?_; rw [ht]) | (simp -implicitDefEqProofs only [wr_succ, wr_zero, wr_none, set_set]) | refine acond_decF (by omega) ?_ | refine acond_decT (by omega) ?_ | refine acond_ndecF (by omega) ?_ | refine acond_ndecT (by omega) ?_ | refine acond_dec (fun _ => ?_) (fun _ => ?_) | refine acond_ndec (fun _ => ?_) (fun _ => ?_) | refine agrd_dec (fun _ => ?_) (fun _ => ?_) | refine agrd_decf (fun _ => ?_) (fun _ => ?_) | refine agrd_ndec (fun _ => ?_) (fun _ => ?_) | refine agrd_ndecf (fun _ => ?_) (fun _ => ?_) | refine abi_len_sl' (by assumption) ?_ | refine aixs_sln (by assumption) ?_ | refine afa_sl (by assumption) ?_ | (refine aK_sl (by assumption) (by omega) ?_; first | rintro _ ⟨rfl, _⟩ | (intro _ hx; obtain ⟨_, rfl, _, _⟩ := EvD.out hx) | (intro _ hx; obtain ⟨_, _, rfl, _, _, _⟩ := JobD.out hx) | rintro _ ⟨_, rfl, _⟩) | rw [SlR.one (by assumption)] | rw [SlR.leaf (by assumption)] | simp -implicitDefEqProofs (disch := omega) only [wrap_in, u8_small, Int.tmod_eq_emod_of_nonneg, Int.tdiv_eq_ediv_of_nonneg] | refine aK_sub (by assumption) ?_ | refine aix_strn (fun _ _ => ?_) | ((with_reducible refine adraw_seq ?_ ?_ ?_); (· kernel_rfl); (· decide +kernel)) | simp -implicitDefEqProofs only [go_sem, slCells_own, aapp_own] | (with_reducible refine And.intro (by omega) ?_) | refine And.intro (by omega) (And.intro (by omega) ?_) | refine acond_split (fun _ => ?_) (fun _ => ?_) | refine agrd_bt (fun _ => ?_) (fun _ => ?_) | refine agrd_bf (fun _ => ?_) (fun _ => ?_) | refine retK_eq ?_ | refine retK_back (by assumption) ?_ | refine retK_eq2 ?_ | refine retK_back2 (by assumption) ?_ | (with_reducible refine And.intro ?_ ?_))
    refine acode_while (fun (p : Nat × AV) => [(0, v), (2, .ptr H.nxt 0), (3, .ptr (H.nxt + 1) 0), (4, .v (.int .i64 p.1))]) (fun p H' => H'.wf ∧ Sub H H' ∧ H'.blk H.nxt = some ⟨[.v (.slice none 0 0), .v (.slice none 0 0)], 2⟩ ∧ H'.blk (H.nxt + 1) = some ⟨[p.2, .v (.slice none 0 0)], 2⟩ ∧ p.1 ≤ 4 ∧ ∃ S, OwnS H' S p.2 (keysTo a p.1) ∧ S.Nodup ∧ ∀ x ∈ S, H.nxt + 2 ≤ x) (fun p => 4 - p.1) (0, .v (.slice none 0 0)) ?_ ?_
    · refine ⟨?_, by repeat (first | exact Sub.refl _ | assumption | refine Sub.new (by assumption) ?_ _ _ | refine Sub.kill_new (by assumption) ?_ _ _ | refine Sub.trans ?_ (by assumption)), by simp only [go_sem], by simp only [go_sem], by simp only; omega, [], ownS_none' _, List.nodup_nil, fun _ h => by cases h⟩
      first | exact (hw.new _ _).new _ _ | (simp only [go_sem]; exact (hw.new _ _).new _ _)
    rintro ⟨i, u⟩ H' ⟨hw', hs, hbr, hbm, hi, S, ho, hn, hS⟩
    simp only at hi ho hbm ⊢
    have hnx := hs.1
    have hlr := hw'.lt hbr
    have hlm := hw'.lt hbm
    have lu := ho.leaf; have cu := ho.one
    rcases Nat.lt_or_ge i 4 with hlt | hge
    · have e1 : keyCell (i : Int) = ((3 + i : Nat) : Int) := by rw [keyCell, if_pos (by omega)]; omega
      have hgI := getD_I ha (3 + i)
      have e2 : (((3 + i : Nat) : Int)).toNat = 3 + i := by omega
      have hkl := keysTo_length a i
      by_cases hk : (untag (a.getD (3 + i) 0)).2 = 0
      · have e : keysTo a (i + 1) = keysTo a i := by rw [keysTo, if_pos hk]
        repeat' (first | simp -implicitDefEqProofs only [go_sem] | (refine ACallK.eq (KeyCell_spec _ _ _) ?_; rw [e1]) | (refine ixI ha ?_) | (rw [e2]) | (refine rdI ha ?_) | refine ACallK.eq (Untag_spec _ _ _ hgI) ?_ | (refine acond_ndecT hk ?_) | refine acond_decF (by omega) ?_ | refine acond_decT (by omega) ?_ | refine acond_ndecF (by omega) ?_ | refine acond_ndecT (by omega) ?_ | refine acond_dec (fun _ => ?_) (fun _ => ?_) | refine acond_ndec (fun _ => ?_) (fun _ => ?_) | refine agrd_dec (fun _ => ?_) (fun _ => ?_) | refine agrd_decf (fun _ => ?_) (fun _ => ?_) | refine agrd_ndec (fun _ => ?_) (fun _ => ?_) | refine agrd_ndecf (fun _ => ?_) (fun _ => ?_) | refine abi_len_sl' (by assumption) ?_ | refine aixs_sln (by assumption) ?_ | refine afa_sl (by assumption) ?_ | (refine aK_sl (by assumption) (by omega) ?_; first | rintro _ ⟨rfl, _⟩ | (intro _ hx; obtain ⟨_, rfl, _, _⟩ := EvD.out hx) | (intro _ hx; obtain ⟨_, _, rfl, _, _, _⟩ := JobD.out hx) | rintro _ ⟨_, rfl, _⟩) | rw [SlR.one (by assumption)] | rw [SlR.leaf (by assumption)] | simp -implicitDefEqProofs (disch := omega) only [wrap_in, u8_small, Int.tmod_eq_emod_of_nonneg, Int.tdiv_eq_ediv_of_nonneg] | refine aK_sub (by assumption) ?_ | refine aix_strn (fun _ _ => ?_) | ((with_reducible refine adraw_seq ?_ ?_ ?_); (· kernel_rfl); (· decide +kernel)) | simp -implicitDefEqProofs only [go_sem, slCells_own, aapp_own] | (with_reducible refine And.intro (by omega) ?_) | refine And.intro (by omega) (And.intro (by omega) ?_) | refine acond_split (fun _ => ?_) (fun _ => ?_) | refine agrd_bt (fun _ => ?_) (fun _ => ?_) | refine agrd_bf (fun _ => ?_) (fun _ => ?_) | refine retK_eq ?_ | refine retK_back (by assumption) ?_ | refine retK_eq2 ?_ | refine retK_back2 (by assumption) ?_ | (with_reducible refine And.intro ?_ ?_))
        all_goals exact back (i + 1, u) ⟨hw', hs, hbr, hbm, by simp only; omega, S, by simp only [e]; exact ho, hn, hS⟩ (by simp only; omega)
      · have e : keysTo a (i + 1) = insK KRowD.key (keysTo a i) ⟨(untag (a.getD (3 + i) 0)).1, (untag (a.getD (3 + i) 0)).2⟩ := by rw [keysTo, if_neg hk]
        repeat' (first | simp -implicitDefEqProofs only [go_sem] | (refine ACallK.eq (KeyCell_spec _ _ _) ?_; rw [e1]) | (refine ixI ha ?_) | (rw [e2]) | (refine rdI ha ?_) | refine ACallK.eq (Untag_spec _ _ _ hgI) ?_ | (refine acond_ndecF hk ?_) | (simp -implicitDefEqProofs only [hbm, hbr]) | refine acond_decF (by omega) ?_ | refine acond_decT (by omega) ?_ | refine acond_ndecF (by omega) ?_ | refine acond_ndecT (by omega) ?_ | refine acond_dec (fun _ => ?_) (fun _ => ?_) | refine acond_ndec (fun _ => ?_) (fun _ => ?_) | refine agrd_dec (fun _ => ?_) (fun _ => ?_) | refine agrd_decf (fun _ => ?_) (fun _ => ?_) | refine agrd_ndec (fun _ => ?_) (fun _ => ?_) | refine agrd_ndecf (fun _ => ?_) (fun _ => ?_) | refine abi_len_sl' (by assumption) ?_ | refine aixs_sln (by assumption) ?_ | refine afa_sl (by assumption) ?_ | (refine aK_sl (by assumption) (by omega) ?_; first | rintro _ ⟨rfl, _⟩ | (intro _ hx; obtain ⟨_, rfl, _, _⟩ := EvD.out hx) | (intro _ hx; obtain ⟨_, _, rfl, _, _, _⟩ := JobD.out hx) | rintro _ ⟨_, rfl, _⟩) | rw [SlR.one (by assumption)] | rw [SlR.leaf (by assumption)] | simp -implicitDefEqProofs (disch := omega) only [wrap_in, u8_small, Int.tmod_eq_emod_of_nonneg, Int.tdiv_eq_ediv_of_nonneg] | refine aK_sub (by assumption) ?_ | refine aix_strn (fun _ _ => ?_) | ((with_reducible refine adraw_seq ?_ ?_ ?_); (· kernel_rfl); (· decide +kernel)) | simp -implicitDefEqProofs only [go_sem, slCells_own, aapp_own] | (with_reducible refine And.intro (by omega) ?_) | refine And.intro (by omega) (And.intro (by omega) ?_) | refine acond_split (fun _ => ?_) (fun _ => ?_) | refine agrd_bt (fun _ => ?_) (fun _ => ?_) | refine agrd_bf (fun _ => ?_) (fun _ => ?_) | refine retK_eq ?_ | refine retK_back (by assumption) ?_ | refine retK_eq2 ?_ | refine retK_back2 (by assumption) ?_ | (with_reducible refine And.intro ?_ ?_))
        refine ACallK.of (l13KeyPut_ok _ u (keysTo a i) ⟨(untag (a.getD (3 + i) 0)).1, (untag (a.getD (3 + i) 0)).2⟩ S _ ho hn (by omega) ⟨untag_sz _, untag_I2 _⟩).cl ?_
        rintro u1 H1 ⟨⟨S1, o1, g1⟩, k1⟩
        have hbr1 := g1.2.1 _ _ (fun hm => by have := hS _ hm; omega) hbr
        have hbm1 := g1.2.1 _ _ (fun hm => by have := hS _ hm; omega) hbm
        have s1 := (g1.sub hw hs (fun b hb => by have := hS b hb; omega)).1
        have hS1 : ∀ x ∈ S1, H.nxt + 2 ≤ x := fun x hx => by
          rcases g1.2.2.1 x hx with q | q
          · exact hS x q
          · omega
        have lu1 := o1.leaf; have cu1 := o1.one
        repeat' (first | simp -implicitDefEqProofs only [go_sem] | (simp -implicitDefEqProofs only [hbm1, hbr1, lu1, cu1, wr_succ, wr_zero, wr_none, set_set, Bool.and_self]) | refine acond_decF (by omega) ?_ | refine acond_decT (by omega) ?_ | refine acond_ndecF (by omega) ?_ | refine acond_ndecT (by omega) ?_ | refine acond_dec (fun _ => ?_) (fun _ => ?_) | refine acond_ndec (fun _ => ?_) (fun _ => ?_) | refine agrd_dec (fun _ => ?_) (fun _ => ?_) | refine agrd_decf (fun _ => ?_) (fun _ => ?_) | refine agrd_ndec (fun _ => ?_) (fun _ => ?_) | refine agrd_ndecf (fun _ => ?_) (fun _ => ?_) | refine abi_len_sl' (by assumption) ?_ | refine aixs_sln (by assumption) ?_ | refine afa_sl (by assumption) ?_ | (refine aK_sl (by assumption) (by omega) ?_; first | rintro _ ⟨rfl, _⟩ | (intro _ hx; obtain ⟨_, rfl, _, _⟩ := EvD.out hx) | (intro _ hx; obtain ⟨_, _, rfl, _, _, _⟩ := JobD.out hx) | rintro _ ⟨_, rfl, _⟩) | rw [SlR.one (by assumption)] | rw [SlR.leaf (by assumption)] | simp -implicitDefEqProofs (disch := omega) only [wrap_in, u8_small, Int.tmod_eq_emod_of_nonneg, Int.tdiv_eq_ediv_of_nonneg] | refine aK_sub (by assumption) ?_ | refine aix_strn (fun _ _ => ?_) | ((with_reducible refine adraw_seq ?_ ?_ ?_); (· kernel_rfl); (· decide +kernel)) | simp -implicitDefEqProofs only [go_sem, slCells_own, aapp_own] | (with_reducible refine And.intro (by omega) ?_) | refine And.intro (by omega) (And.intro (by omega) ?_) | refine acond_split (fun _ => ?_) (fun _ => ?_) | refine agrd_bt (fun _ => ?_) (fun _ => ?_) | refine agrd_bf (fun _ => ?_) (fun _ => ?_) | refine retK_eq ?_ | refine retK_back (by assumption) ?_ | refine retK_eq2 ?_ | refine retK_back2 (by assumption) ?_ | (with_reducible refine And.intro ?_ ?_))
        all_goals exact back (i + 1, u1) ⟨k1.1.set (k1.1.lt hbm1) _, s1.set hw (by omega) _, rfl, by simp only; omega, S1, by simp only [e]; exact o1.setne (fun b hb => by have := hS1 b hb; omega), g1.2.2.2, hS1⟩ (by simp only; omega)
    · obtain rfl : i = 4 := by omega
      have h0 : (0 : Int).toNat = 0 := rfl
      repeat' (first | simp -implicitDefEqProofs only [go_sem] | (refine ixI ha ?_) | (refine rdI ha ?_) | (simp -implicitDefEqProofs (disch := omega) only [h0, Int.tmod_eq_emod_of_nonneg]) | (exfalso; omega) | refine acond_decF (by omega) ?_ | refine acond_decT (by omega) ?_ | refine acond_ndecF (by omega) ?_ | refine acond_ndecT (by omega) ?_ | refine acond_dec (fun _ => ?_) (fun _ => ?_) | refine acond_ndec (fun _ => ?_) (fun _ => ?_) | refine agrd_dec (fun _ => ?_) (fun _ => ?_) | refine agrd_decf (fun _ => ?_) (fun _ => ?_) | refine agrd_ndec (fun _ => ?_) (fun _ => ?_) | refine agrd_ndecf (fun _ => ?_) (fun _ => ?_) | refine abi_len_sl' (by assumption) ?_ | refine aixs_sln (by assumption) ?_ | refine afa_sl (by assumption) ?_ | (refine aK_sl (by assumption) (by omega) ?_; first | rintro _ ⟨rfl, _⟩ | (intro _ hx; obtain ⟨_, rfl, _, _⟩ := EvD.out hx) | (intro _ hx; obtain ⟨_, _, rfl, _, _, _⟩ := JobD.out hx) | rintro _ ⟨_, rfl, _⟩) | rw [SlR.one (by assumption)] | rw [SlR.leaf (by assumption)] | simp -implicitDefEqProofs (disch := omega) only [wrap_in, u8_small, Int.tmod_eq_emod_of_nonneg, Int.tdiv_eq_ediv_of_nonneg] | refine aK_sub (by assumption) ?_ | refine aix_strn (fun _ _ => ?_) | ((with_reducible refine adraw_seq ?_ ?_ ?_); (· kernel_rfl); (· decide +kernel)) | simp -implicitDefEqProofs only [go_sem, slCells_own, aapp_own] | (with_reducible refine And.intro (by omega) ?_) | refine And.intro (by omega) (And.intro (by omega) ?_) | refine acond_split (fun _ => ?_) (fun _ => ?_) | refine agrd_bt (fun _ => ?_) (fun _ => ?_) | refine agrd_bf (fun _ => ?_) (fun _ => ?_) | refine retK_eq ?_ | refine retK_back (by assumption) ?_ | refine retK_eq2 ?_ | refine retK_back2 (by assumption) ?_ | (with_reducible refine And.intro ?_ ?_))
      refine ACallK.of (ReportIn_spec _ v a (a.getD 0 0 % 2) _ (ha.sub hs)).cl ?_
      rintro u2 H2 ⟨⟨s2, S2, o2, F2⟩, k2⟩
      have hbr2 := s2.2 _ _ hbr
      have hbm2 := s2.2 _ _ hbm
      have lu2 := o2.leaf; have cu2 := o2.one
      repeat' (first | simp -implicitDefEqProofs only [go_sem] | (simp -implicitDefEqProofs only [hbm2, hbr2, lu, cu, lu2, cu2, blk_set_self, wr_succ, wr_zero, wr_none, set_set, Bool.and_self]) | refine acond_decF (by omega) ?_ | refine acond_decT (by omega) ?_ | refine acond_ndecF (by omega) ?_ | refine acond_ndecT (by omega) ?_ | refine acond_dec (fun _ => ?_) (fun _ => ?_) | refine acond_ndec (fun _ => ?_) (fun _ => ?_) | refine agrd_dec (fun _ => ?_) (fun _ => ?_) | refine agrd_decf (fun _ => ?_) (fun _ => ?_) | refine agrd_ndec (fun _ => ?_) (fun _ => ?_) | refine agrd_ndecf (fun _ => ?_) (fun _ => ?_) | refine abi_len_sl' (by assumption) ?_ | refine aixs_sln (by assumption) ?_ | refine afa_sl (by assumption) ?_ | (refine aK_sl (by assumption) (by omega) ?_; first | rintro _ ⟨rfl, _⟩ | (intro _ hx; obtain ⟨_, rfl, _, _⟩ := EvD.out hx) | (intro _ hx; obtain ⟨_, _, rfl, _, _, _⟩ := JobD.out hx) | rintro _ ⟨_, rfl, _⟩) | rw [SlR.one (by assumption)] | rw [SlR.leaf (by assumption)] | simp -implicitDefEqProofs (disch := omega) only [wrap_in, u8_small, Int.tmod_eq_emod_of_nonneg, Int.tdiv_eq_ediv_of_nonneg] | refine aK_sub (by assumption) ?_ | refine aix_strn (fun _ _ => ?_) | ((with_reducible refine adraw_seq ?_ ?_ ?_); (· kernel_rfl); (· decide +kernel)) | simp -implicitDefEqProofs only [go_sem, slCells_own, aapp_own] | (with_reducible refine And.intro (by omega) ?_) | refine And.intro (by omega) (And.intro (by omega) ?_) | refine acond_split (fun _ => ?_) (fun _ => ?_) | refine agrd_bt (fun _ => ?_) (fun _ => ?_) | refine agrd_bf (fun _ => ?_) (fun _ => ?_) | refine retK_eq ?_ | refine retK_back (by assumption) ?_ | refine retK_eq2 ?_ | refine retK_back2 (by assumption) ?_ | (with_reducible refine And.intro ?_ ?_))
      exact retK_one (modelOf_end hw ht (hs.trans s2) (ho.sub s2) o2 (List.nodup_append.2 ⟨hn, F2.1, fun x hx y hy => by have := hw'.lt' (ho.isin x hx); have := F2.2 y hy; omega⟩) (fun x hx => by rcases List.mem_append.1 hx with q | q; exact hS x q; have := F2.2 x q; omega) _ _)
  · have hf : tableOk a = false := by simpa using ht
    repeat' (first | simp -implicitDefEqProofs only [go_sem] | (refine ACallK.eq (TableOk_spec _ _ a _ (ha.sub (by repeat (first | exact Sub.refl _ | assumption | refine Sub.new (by assumption) ?_ _ _ | refine Sub.kill_new (by assumption) ?_ _ _ | refine Sub.trans ?_ (by assumption))))) ?_; rw [hf]) | (simp -implicitDefEqProofs only [wr_succ, wr_zero, wr_none, set_set]) | refine acond_decF (by omega) ?_ | refine acond_decT (by omega) ?_ | refine acond_ndecF (by omega) ?_ | refine acond_ndecT (by omega) ?_ | refine acond_dec (fun _ => ?_) (fun _ => ?_) | refine acond_ndec (fun _ => ?_) (fun _ => ?_) | refine agrd_dec (fun _ => ?_) (fun _ => ?_) | refine agrd_decf (fun _ => ?_) (fun _ => ?_) | refine agrd_ndec (fun _ => ?_) (fun _ => ?_) | refine agrd_ndecf (fun _ => ?_) (fun _ => ?_) | refine abi_len_sl' (by assumption) ?_ | refine aixs_sln (by assumption) ?_ | refine afa_sl (by assumption) ?_ | (refine aK_sl (by assumption) (by omega) ?_; first | rintro _ ⟨rfl, _⟩ | (intro _ hx; obtain ⟨_, rfl, _, _⟩ := EvD.out hx) | (intro _ hx; obtain ⟨_, _, rfl, _, _, _⟩ := JobD.out hx) | rintro _ ⟨_, rfl, _⟩) | rw [SlR.one (by assumption)] | rw [SlR.leaf (by assumption)] | simp -implicitDefEqProofs (disch := omega) only [wrap_in, u8_small, Int.tmod_eq_emod_of_nonneg, Int.tdiv_eq_ediv_of_nonneg] | refine aK_sub (by assumption) ?_ | refine aix_strn (fun _ _ => ?_) | ((with_reducible refine adraw_seq ?_ ?_ ?_); (· kernel_rfl); (· decide +kernel)) | simp -implicitDefEqProofs only [go_sem, slCells_own, aapp_own] | (with_reducible refine And.intro (by omega) ?_) | refine And.intro (by omega) (And.intro (by omega) ?_) | refine acond_split (fun _ => ?_) (fun _ => ?_) | refine agrd_bt (fun _ => ?_) (fun _ => ?_) | refine agrd_bf (fun _ => ?_) (fun _ => ?_) | refine retK_eq ?_ | refine retK_back (by assumption) ?_ | refine retK_eq2 ?_ | refine retK_back2 (by assumption) ?_ | (with_reducible refine And.intro ?_ ?_))
    exact retK_one (modelOf_none ht (by first | exact by repeat (first | exact Sub.refl _ | assumption | refine Sub.new (by assumption) ?_ _ _ | refine Sub.kill_new (by assumption) ?_ _ _ | refine Sub.trans ?_ (by assumption)) | (simp only [go_sem]; exact by repeat (first | exact Sub.refl _ | assumption | refine Sub.new (by assumption) ?_ _ _ | refine Sub.kill_new (by assumption) ?_ _ _ | refine Sub.trans ?_ (by assumption)))))
end Go.Proofs.YtipfnhfcoolhaaaGreat.Aw
end
section
namespace Go.Proofs.YtipfnhfcoolhaaaGreat.Aw
open Go Go.RowKit
set_option maxRecDepth 100000
set_option maxHeartbeats 2000000
attribute [-go_sem] wr_eq
theorem untag_z : (untag 0).2 = 0 := by unfold untag; rw [if_neg (by omega)]
theorem tab_find {a : List Int} (ht : tableOk a = true) {s : Nat} (hs : s < 4) (hk : (untag (tagOf a s)).2 ≠ 0) : findKey a (untag (tagOf a s)).1 = ((s : Int), (untag (tagOf a s)).2) := by
  have hp := tableOk_cells ht
  have h1 := ((Bool.and_eq_true _ _).mp ht).2
  rw [List.all_eq_true] at h1
  have h2 := h1 s (List.mem_range.2 hs)
  have h3 : (findKey a (untag (tagOf a s)).1).1 = s := by
    unfold tabAt at h2
    rw [Bool.or_eq_true] at h2
    rcases h2 with h2 | h2
    · have := of_decide_eq_true h2
      rw [this] at hk; exact absurd untag_z hk
    · exact (of_decide_eq_true h2).2
  have hko := untag_key hk
  have hf : findKey a (untag (tagOf a s)).1 = ((find6 a (untag (tagOf a s)).1 4 0).1, (find6 a (untag (tagOf a s)).1 4 0).2.1) := by rw [findKey, if_pos ⟨hp, hko⟩]
  obtain ⟨b1, b2, b3, b4, b5⟩ := find6_bd (a := a) hko 4 0 (by omega)
  rw [hf] at h3
  simp only at h3
  have b6 := (b5 (by omega)).1
  rw [hf, h3, b6, h3]
  have e : 3 + ((s : Int)).toNat = 3 + s := by omega
  rw [e]; rfl
def regA (a : List Int) (l : List ByteArray) : List KRowD := l.foldl (fun ks key => insK KRowD.key ks ⟨key, (findKey a key).2⟩) []
theorem regA_snoc (a : List Int) (l : List ByteArray) (key : ByteArray) : regA a (l ++ [key]) = insK KRowD.key (regA a l) ⟨key, (findKey a key).2⟩ := by simp [regA, List.foldl_append]
theorem regA_keys {a : List Int} (ht : tableOk a = true) : ∀ n, n ≤ 4 → regA a (keysIn a n) = keysTo a n := by
  intro n
  induction n with
  | zero => intro _; rfl
  | succ n ih =>
    intro hn
    unfold keysIn keysTo
    by_cases hz : (untag (tagOf a n)).2 = 0
    · have hz' : (untag (a.getD (3 + n) 0)).2 = 0 := hz
      rw [if_pos hz, if_pos hz']; exact ih (by omega)
    · have hz' : ¬ (untag (a.getD (3 + n) 0)).2 = 0 := hz
      rw [if_neg hz, if_neg hz', regA_snoc, ih (by omega), tab_find ht (by omega) hz]; rfl
theorem keys_good {a : List Int} (ht : tableOk a = true) : ∀ n, n ≤ 4 → (keysIn a n).Nodup ∧ ∀ key ∈ keysIn a n, keyOk key = true ∧ (1 ≤ (findKey a key).2 ∧ (findKey a key).2 ≤ 3) ∧ ∃ s : Nat, s < n ∧ (findKey a key).1 = s := by
  intro n
  induction n with
  | zero => intro _; exact ⟨List.nodup_nil, fun _ h => by cases h⟩
  | succ n ih =>
    intro hn
    obtain ⟨i1, i2⟩ := ih (by omega)
    unfold keysIn
    by_cases hz : (untag (tagOf a n)).2 = 0
    · rw [if_pos hz]
      refine ⟨i1, fun key hk => ?_⟩
      obtain ⟨a1, a2, s, a3, a4⟩ := i2 key hk
      exact ⟨a1, a2, s, by omega, a4⟩
    · rw [if_neg hz]
      have hf := tab_find ht (by omega : n < 4) hz
      have hr := untag_kind (tagOf a n)
      refine ⟨List.nodup_append.2 ⟨i1, by simp, fun x hx y hy => ?_⟩, fun key hk => ?_⟩
      · have : y = (untag (tagOf a n)).1 := by simpa using hy
        subst this
        rintro rfl
        obtain ⟨_, _, s, a3, a4⟩ := i2 _ hx
        rw [hf] at a4
        simp only at a4; omega
      · rcases List.mem_append.1 hk with hk | hk
        · obtain ⟨a1, a2, s, a3, a4⟩ := i2 key hk
          exact ⟨a1, a2, s, by omega, a4⟩
        · have : key = (untag (tagOf a n)).1 := by simpa using hk
          subst this
          refine ⟨untag_key hz, ?_, n, by omega, by rw [hf]⟩
          rw [hf]; simp only; omega
theorem regA_ok {a : List Int} {l : List ByteArray} (hn : l.Nodup) (hl : l.length ≤ 4) (hg : ∀ key ∈ l, keyOk key = true ∧ 1 ≤ (findKey a key).2 ∧ (findKey a key).2 ≤ 3) : ∀ i, i ≤ l.length → SortedK KRowD.key (regA a (l.take i)) ∧ (regA a (l.take i)).length = i ∧ ∀ k ∈ regA a (l.take i), k.key ∈ l.take i ∧ keyOk k.key = true ∧ 1 ≤ k.kind ∧ k.kind ≤ 3 := by
  intro i
  induction i with
  | zero => intro _; exact ⟨.nil, rfl, fun _ h => by cases h⟩
  | succ i ih =>
    intro hi
    obtain ⟨i1, i2, i3⟩ := ih (by omega)
    have e := List.take_succ_eq_append_getElem (by omega : i < l.length)
    rw [e, regA_snoc]
    have hni : l[i] ∉ l.take i := by
      intro hm
      obtain ⟨j, hj, ej⟩ := List.mem_iff_getElem.1 hm
      rw [List.length_take] at hj
      rw [List.getElem_take] at ej
      have := (List.nodup_iff_pairwise_ne.1 hn)
      exact List.pairwise_iff_getElem.1 this j i (by omega) (by omega) (by omega) ej
    have hno : hasK KRowD.key (regA a (l.take i)) l[i] = false := by
      cases hh : hasK KRowD.key (regA a (l.take i)) l[i] with
      | false => rfl
      | true =>
        obtain ⟨k, hk, ek⟩ := hasK_iff.1 hh
        exact absurd (ek ▸ (i3 k hk).1) hni
    refine ⟨i1.ins hno, by rw [insK_length, i2], fun k hk => ?_⟩
    rcases mem_insK.1 hk with q | q
    · subst q
      exact ⟨List.mem_append_right _ (by simp), hg _ (List.getElem_mem _)⟩
    · have := i3 k q
      exact ⟨List.mem_append_left _ this.1, this.2⟩
theorem do_new {ks : List KRowD} {key : ByteArray} {kind : Int} (hs : SortedK KRowD.key ks) (h4 : ks.length < 4) (hk : ∀ k ∈ ks, k.key ≠ key ∧ keyOk k.key = true ∧ 1 ≤ k.kind ∧ k.kind ≤ 3) (hg : keyOk key = true ∧ 1 ≤ kind ∧ kind ≤ 3) : modelDo ⟨ks, []⟩ ⟨1, key, kind, 0⟩ = (⟨insK KRowD.key ks ⟨key, kind⟩, []⟩, 0, []) := by
  have hm : modelOk ⟨ks, []⟩ = true := modelOk_iff.2 ⟨⟨hs, by show ks.length ≤ 4; omega, fun k h => (hk k h).2⟩, (fun (r : RowD) (hr : r ∈ ([] : List RowD)) => nomatch hr), rfl⟩
  have ho : opOk ⟨1, key, kind, 0⟩ = true := by unfold opOk; simp [hg]
  have h0 : modelKind ⟨ks, []⟩ key = 0 := by
    refine Classical.byContradiction fun q => ?_
    obtain ⟨k, h1, h2, _⟩ := modelKind_mem q
    exact (hk k h1).1 h2
  unfold modelDo
  rw [if_neg (fun q => q ⟨hm, ho⟩), if_neg (by show ¬ (1 : Int) = 3; omega), if_neg (by show ¬ (1 : Int) = 2; omega)]
  show (if modelKind ⟨ks, []⟩ key = kind then _ else _) = _
  rw [h0, if_neg (by omega), if_neg (by simp), if_neg (by show ¬ ((ks.length : Nat) : Int) = 4; omega)]
theorem ModelOf_impl (W0 : World) (v : AV) (a : List Int) (H : AH) (ha : SlR W0 H v a) : ACalls Tryz.prog W0 11 [v] H (fun u H' => NewV H H' u (modelOf a)) := by
  refine acallw Tryz.func11 rfl (by kernel_rfl) (by kernel_rfl) fun hc hw => ?_
  have c0 := ha.one; have p0 := ha.leaf
  by_cases ht : tableOk a = true
  · have hp := tableOk_cells ht
    have hl := cellsOk_len hp
    have hI0 := getD_I ha 0
    have hW := (cellsOk_get hp 0); unfold wordP at hW
    have hko : keysOf a = keysIn a 4 := by rw [keysOf, if_pos hp]
    obtain ⟨kn, kg⟩ := keys_good ht 4 (Nat.le_refl _)
    have kl := keysIn_length a 4
    have hreg := regA_ok (a := a) kn kl (fun key hk => ⟨(kg key hk).1, (kg key hk).2.1⟩)
    have hregK := regA_keys ht 4 (Nat.le_refl _)
    repeat' (first | simp -implicitDefEqProofs only [go_sem] | (refine ACallK.eq (TableOk_impl _ _ a _ (ha.sub (by repeat (first | exact Sub.refl _ | assumption | refine Sub.new (by assumption) ?_ _ _ | refine Sub.kill_new (by assumption) ?_ _ _ | refine Sub.trans ?_ (by assumption))))) ?_; rw [ht]) | (simp -implicitDefEqProofs only [wr_succ, wr_zero, wr_none, set_set]) | refine acond_decF (by omega) ?_ | refine acond_decT (by omega) ?_ | refine acond_ndecF (by omega) ?_ | refine acond_ndecT (by omega) ?_ | refine acond_dec (fun _ => ?_) (fun _ => ?_) | refine acond_ndec (fun _ => ?_) (fun _ => ?_) | refine agrd_dec (fun _ => ?_) (fun _ => ?_) | refine agrd_decf (fun _ => ?_) (fun _ => ?_) | refine agrd_ndec (fun _ => ?_) (fun _ => ?_) | refine agrd_ndecf (fun _ => ?_) (fun _ => ?_) | refine abi_len_sl' (by assumption) ?_ | refine aixs_sln (by assumption) ?_ | refine afa_sl (by assumption) ?_ | (refine aK_sl (by assumption) (by omega) ?_; first | rintro _ ⟨rfl, _⟩ | (intro _ hx; obtain ⟨_, rfl, _, _⟩ := EvD.out hx) | (intro _ hx; obtain ⟨_, _, rfl, _, _, _⟩ := JobD.out hx) | rintro _ ⟨_, rfl, _⟩) | rw [SlR.one (by assumption)] | rw [SlR.leaf (by assumption)] | simp -implicitDefEqProofs (disch := omega) only [wrap_in, u8_small, Int.tmod_eq_emod_of_nonneg, Int.tdiv_eq_ediv_of_nonneg] | refine aK_sub (by assumption) ?_ | refine aix_strn (fun _ _ => ?_) | ((with_reducible refine adraw_seq ?_ ?_ ?_); (· kernel_rfl); (· decide +kernel)) | simp -implicitDefEqProofs only [go_sem, slCells_own, aapp_own] | (with_reducible refine And.intro (by omega) ?_) | refine And.intro (by omega) (And.intro (by omega) ?_) | refine acond_split (fun _ => ?_) (fun _ => ?_) | refine agrd_bt (fun _ => ?_) (fun _ => ?_) | refine agrd_bf (fun _ => ?_) (fun _ => ?_) | refine retK_eq ?_ | refine retK_back (by assumption) ?_ | refine retK_eq2 ?_ | refine retK_back2 (by assumption) ?_ | (with_reducible refine And.intro ?_ ?_))
    refine ACallK.of (KeysIn_impl _ v a _ (ha.sub (by repeat (first | exact Sub.refl _ | assumption | refine Sub.new (by assumption) ?_ _ _ | refine Sub.kill_new (by assumption) ?_ _ _ | refine Sub.trans ?_ (by assumption))))).cl ?_
    rintro uk H1 ⟨⟨s1, S0, o0, F0⟩, k1⟩
    rw [hko] at o0
    generalize hL : keysIn a 4 = l at *
    have n1 := s1.1; simp only [go_sem] at n1
    have hF0 := F0.2; simp only [go_sem] at hF0
    have z1 : Sub H H1 := Sub.trans (by repeat (first | exact Sub.refl _ | assumption | refine Sub.new (by assumption) ?_ _ _ | refine Sub.kill_new (by assumption) ?_ _ _ | refine Sub.trans ?_ (by assumption))) s1
    have br1 := s1.2 H.nxt _ (by simp only [go_sem]; rfl)
    have bm1 := s1.2 (H.nxt + 1) _ (by simp only [go_sem]; rfl)
    have hsl := o0.slr (W0 := W0)
    repeat' (first | simp -implicitDefEqProofs only [go_sem] | (refine abi_len_sl' hsl ?_) | refine acond_decF (by omega) ?_ | refine acond_decT (by omega) ?_ | refine acond_ndecF (by omega) ?_ | refine acond_ndecT (by omega) ?_ | refine acond_dec (fun _ => ?_) (fun _ => ?_) | refine acond_ndec (fun _ => ?_) (fun _ => ?_) | refine agrd_dec (fun _ => ?_) (fun _ => ?_) | refine agrd_decf (fun _ => ?_) (fun _ => ?_) | refine agrd_ndec (fun _ => ?_) (fun _ => ?_) | refine agrd_ndecf (fun _ => ?_) (fun _ => ?_) | refine abi_len_sl' (by assumption) ?_ | refine aixs_sln (by assumption) ?_ | refine afa_sl (by assumption) ?_ | (refine aK_sl (by assumption) (by omega) ?_; first | rintro _ ⟨rfl, _⟩ | (intro _ hx; obtain ⟨_, rfl, _, _⟩ := EvD.out hx) | (intro _ hx; obtain ⟨_, _, rfl, _, _, _⟩ := JobD.out hx) | rintro _ ⟨_, rfl, _⟩) | rw [SlR.one (by assumption)] | rw [SlR.leaf (by assumption)] | simp -implicitDefEqProofs (disch := omega) only [wrap_in, u8_small, Int.tmod_eq_emod_of_nonneg, Int.tdiv_eq_ediv_of_nonneg] | refine aK_sub (by assumption) ?_ | refine aix_strn (fun _ _ => ?_) | ((with_reducible refine adraw_seq ?_ ?_ ?_); (· kernel_rfl); (· decide +kernel)) | simp -implicitDefEqProofs only [go_sem, slCells_own, aapp_own] | (with_reducible refine And.intro (by omega) ?_) | refine And.intro (by omega) (And.intro (by omega) ?_) | refine acond_split (fun _ => ?_) (fun _ => ?_) | refine agrd_bt (fun _ => ?_) (fun _ => ?_) | refine agrd_bf (fun _ => ?_) (fun _ => ?_) | refine retK_eq ?_ | refine retK_back (by assumption) ?_ | refine retK_eq2 ?_ | refine retK_back2 (by assumption) ?_ | (with_reducible refine And.intro ?_ ?_))
    refine acode_while (fun (p : Nat × AV) => [(0, v), (2, .ptr H.nxt 0), (3, .ptr (H.nxt + 1) 0), (14, uk), (15, .v (.int .i64 l.length)), (16, .v (.int .i64 p.1))]) (fun p H' => H'.wf ∧ Sub H H' ∧ OwnS H' S0 uk l ∧ H'.blk H.nxt = some ⟨[.v (.slice none 0 0), .v (.slice none 0 0)], 2⟩ ∧ p.1 ≤ l.length ∧ ∃ vr, H'.blk (H.nxt + 1) = some ⟨[p.2, vr], 2⟩ ∧ ∃ S T, OwnS H' S p.2 (regA a (l.take p.1)) ∧ OwnS H' T vr ([] : List RowD) ∧ (S ++ T).Nodup ∧ ∀ x ∈ S ++ T, H.nxt + 2 ≤ x) (fun p => l.length - p.1) (0, .v (.slice none 0 0)) ⟨k1.1, z1, o0, br1, Nat.zero_le _, _, bm1, [], [], ownS_none' _, ownS_none' _, List.nodup_nil, fun _ h => by cases h⟩ ?_
    rintro ⟨i, u⟩ H' ⟨hw', hs, ho0, hbr, hi, vr, hbm, S, T, ho, hot, hn, hS⟩
    simp only at hi ho hbm ⊢
    have hnx := hs.1
    have hlr := hw'.lt hbr
    have hlm := hw'.lt hbm
    have lu := ho.leaf; have cu := ho.one
    have lr := hot.leaf; have cr := hot.one
    have hsl' := ho0.slr (W0 := W0)
    have hown : Own.own H' (S ++ T) [u, vr] (⟨regA a (l.take i), []⟩ : ModelD) := ModelD.own_mk ho hot
    rcases Nat.lt_or_ge i l.length with hlt | hge
    · obtain ⟨r1, r2, r3⟩ := hreg i (by omega)
      have hgi := kg _ (List.getElem_mem hlt)
      have hsz : (l[i]).size ≤ big := by
        have := (of_decide_eq_true ((Bool.and_eq_true _ _).mp hgi.1).1).2
        simp only [big]; omega
      have hdo := do_new (key := l[i]) (kind := (findKey a l[i]).2) r1 (by omega) (fun k hk => ⟨fun e => by
        have hm := (r3 k hk).1
        rw [e] at hm
        obtain ⟨j, hj, ej⟩ := List.mem_iff_getElem.1 hm
        rw [List.length_take] at hj
        rw [List.getElem_take] at ej
        exact List.pairwise_iff_getElem.1 (List.nodup_iff_pairwise_ne.1 kn) j i (by omega) (by omega) (by omega) ej, (r3 k hk).2⟩) ⟨hgi.1, hgi.2.1⟩
      repeat' (first | simp -implicitDefEqProofs only [go_sem] | (refine aixs_sln hsl' ?_) | (refine aK_sl hsl' (by omega) ?_; rintro _ ⟨rfl, _⟩) | (refine ACallK.eq (FindKey_impl _ _ a _ _ (ha.sub hs) hsz) ?_) | (simp -implicitDefEqProofs only [hbm, hbr, if_false, List.drop_zero, Nat.le_refl]) | refine acond_decF (by omega) ?_ | refine acond_decT (by omega) ?_ | refine acond_ndecF (by omega) ?_ | refine acond_ndecT (by omega) ?_ | refine acond_dec (fun _ => ?_) (fun _ => ?_) | refine acond_ndec (fun _ => ?_) (fun _ => ?_) | refine agrd_dec (fun _ => ?_) (fun _ => ?_) | refine agrd_decf (fun _ => ?_) (fun _ => ?_) | refine agrd_ndec (fun _ => ?_) (fun _ => ?_) | refine agrd_ndecf (fun _ => ?_) (fun _ => ?_) | refine abi_len_sl' (by assumption) ?_ | refine aixs_sln (by assumption) ?_ | refine afa_sl (by assumption) ?_ | (refine aK_sl (by assumption) (by omega) ?_; first | rintro _ ⟨rfl, _⟩ | (intro _ hx; obtain ⟨_, rfl, _, _⟩ := EvD.out hx) | (intro _ hx; obtain ⟨_, _, rfl, _, _, _⟩ := JobD.out hx) | rintro _ ⟨_, rfl, _⟩) | rw [SlR.one (by assumption)] | rw [SlR.leaf (by assumption)] | simp -implicitDefEqProofs (disch := omega) only [wrap_in, u8_small, Int.tmod_eq_emod_of_nonneg, Int.tdiv_eq_ediv_of_nonneg] | refine aK_sub (by assumption) ?_ | refine aix_strn (fun _ _ => ?_) | ((with_reducible refine adraw_seq ?_ ?_ ?_); (· kernel_rfl); (· decide +kernel)) | simp -implicitDefEqProofs only [go_sem, slCells_own, aapp_own] | (with_reducible refine And.intro (by omega) ?_) | refine And.intro (by omega) (And.intro (by omega) ?_) | refine acond_split (fun _ => ?_) (fun _ => ?_) | refine agrd_bt (fun _ => ?_) (fun _ => ?_) | refine agrd_bf (fun _ => ?_) (fun _ => ?_) | refine retK_eq ?_ | refine retK_back (by assumption) ?_ | refine retK_eq2 ?_ | refine retK_back2 (by assumption) ?_ | (with_reducible refine And.intro ?_ ?_))
      refine ACallK.of (ModelDo_impl _ [u, vr] (⟨regA a (l.take i), []⟩ : ModelD) _ ⟨1, l[i], (findKey a l[i]).2, 0⟩ _ (Own.rep hown) ⟨rfl, by simp only [inI64]; omega, hsz, by simp only [inI64]; omega, by simp only [inI64]; omega⟩ (by simp only; omega) (by simp)).cl ?_
      rintro _ H2 ⟨⟨c', v', rfl, s2, S', T', o', ot', F'⟩, k2⟩
      rw [hdo] at o' ot' ⊢
      obtain ⟨vk2, vr2, Sk2, Sr2, rfl, rfl, q0, q1⟩ := o'
      have hbr2 := s2.2 _ _ hbr
      have hbm2 := s2.2 _ _ hbm
      have l0 := q0.leaf; have d0 := q0.one
      have l1 := q1.leaf; have d1 := q1.one
      have hS2 : ∀ x ∈ Sk2 ++ Sr2, H'.nxt ≤ x := fun x hx => F'.2 x (List.mem_append_left _ hx)
      have e : regA a (l.take (i + 1)) = insK KRowD.key (regA a (l.take i)) ⟨l[i], (findKey a l[i]).2⟩ := by rw [List.take_succ_eq_append_getElem hlt, regA_snoc]
      have ho2 := (ho0.sub s2)
      have hlt0 : ∀ b ∈ S0, b ≠ H.nxt + 1 := fun b hb => by have := hF0 b hb; omega
      repeat' (first | simp -implicitDefEqProofs only [go_sem] | (simp -implicitDefEqProofs only [hbm2, hbr2, l0, d0, l1, d1, wr_succ, wr_zero, wr_none, set_set, Bool.and_self]) | refine acond_decF (by omega) ?_ | refine acond_decT (by omega) ?_ | refine acond_ndecF (by omega) ?_ | refine acond_ndecT (by omega) ?_ | refine acond_dec (fun _ => ?_) (fun _ => ?_) | refine acond_ndec (fun _ => ?_) (fun _ => ?_) | refine agrd_dec (fun _ => ?_) (fun _ => ?_) | refine agrd_decf (fun _ => ?_) (fun _ => ?_) | refine agrd_ndec (fun _ => ?_) (fun _ => ?_) | refine agrd_ndecf (fun _ => ?_) (fun _ => ?_) | refine abi_len_sl' (by assumption) ?_ | refine aixs_sln (by assumption) ?_ | refine afa_sl (by assumption) ?_ | (refine aK_sl (by assumption) (by omega) ?_; first | rintro _ ⟨rfl, _⟩ | (intro _ hx; obtain ⟨_, rfl, _, _⟩ := EvD.out hx) | (intro _ hx; obtain ⟨_, _, rfl, _, _, _⟩ := JobD.out hx) | rintro _ ⟨_, rfl, _⟩) | rw [SlR.one (by assumption)] | rw [SlR.leaf (by assumption)] | simp -implicitDefEqProofs (disch := omega) only [wrap_in, u8_small, Int.tmod_eq_emod_of_nonneg, Int.tdiv_eq_ediv_of_nonneg] | refine aK_sub (by assumption) ?_ | refine aix_strn (fun _ _ => ?_) | ((with_reducible refine adraw_seq ?_ ?_ ?_); (· kernel_rfl); (· decide +kernel)) | simp -implicitDefEqProofs only [go_sem, slCells_own, aapp_own] | (with_reducible refine And.intro (by omega) ?_) | refine And.intro (by omega) (And.intro (by omega) ?_) | refine acond_split (fun _ => ?_) (fun _ => ?_) | refine agrd_bt (fun _ => ?_) (fun _ => ?_) | refine agrd_bf (fun _ => ?_) (fun _ => ?_) | refine retK_eq ?_ | refine retK_back (by assumption) ?_ | refine retK_eq2 ?_ | refine retK_back2 (by assumption) ?_ | (with_reducible refine And.intro ?_ ?_))
      all_goals first
        | exact back (i + 1, vk2) ⟨k2.1.set (k2.1.lt hbm2) _, (hs.trans s2).set hw (by omega) _, ho2.setne hlt0, by rw [blk_set_ne _ (by omega)]; exact hbr2, by simp only; omega, vr2, blk_set_self _ _ _, Sk2, Sr2, by simp only [e]; exact q0.setne (fun b hb => by have := hS2 b (List.mem_append_left _ hb); omega), q1.setne (fun b hb => by have := hS2 b (List.mem_append_right _ hb); omega), F'.left.1, fun x hx => by have := hS2 x hx; omega⟩ (by simp only; omega)
        | exact back (i + 1, vk2) ⟨k2.1.set (k2.1.lt hbm2) _, (hs.trans s2).set hw (by omega) _, ho2.setne hlt0, by simp only; omega, vr2, rfl, Sk2, Sr2, by simp only [e]; exact q0.setne (fun b hb => by have := hS2 b (List.mem_append_left _ hb); omega), q1.setne (fun b hb => by have := hS2 b (List.mem_append_right _ hb); omega), F'.left.1, fun x hx => by have := hS2 x hx; omega⟩ (by simp only; omega)
        | trace_state
    · have hie : i = l.length := by omega
      have h0 : (0 : Int).toNat = 0 := rfl
      rw [hie, List.take_length, hregK] at ho
      repeat' (first | simp -implicitDefEqProofs only [go_sem] | (refine ixI ha ?_ (hs := hs)) | (refine rdI ha ?_ (hs := hs)) | (simp -implicitDefEqProofs (disch := omega) only [h0, Int.tmod_eq_emod_of_nonneg]) | refine acond_decF (by omega) ?_ | refine acond_decT (by omega) ?_ | refine acond_ndecF (by omega) ?_ | refine acond_ndecT (by omega) ?_ | refine acond_dec (fun _ => ?_) (fun _ => ?_) | refine acond_ndec (fun _ => ?_) (fun _ => ?_) | refine agrd_dec (fun _ => ?_) (fun _ => ?_) | refine agrd_decf (fun _ => ?_) (fun _ => ?_) | refine agrd_ndec (fun _ => ?_) (fun _ => ?_) | refine agrd_ndecf (fun _ => ?_) (fun _ => ?_) | refine abi_len_sl' (by assumption) ?_ | refine aixs_sln (by assumption) ?_ | refine afa_sl (by assumption) ?_ | (refine aK_sl (by assumption) (by omega) ?_; first | rintro _ ⟨rfl, _⟩ | (intro _ hx; obtain ⟨_, rfl, _, _⟩ := EvD.out hx) | (intro _ hx; obtain ⟨_, _, rfl, _, _, _⟩ := JobD.out hx) | rintro _ ⟨_, rfl, _⟩) | rw [SlR.one (by assumption)] | rw [SlR.leaf (by assumption)] | simp -implicitDefEqProofs (disch := omega) only [wrap_in, u8_small, Int.tmod_eq_emod_of_nonneg, Int.tdiv_eq_ediv_of_nonneg] | refine aK_sub (by assumption) ?_ | refine aix_strn (fun _ _ => ?_) | ((with_reducible refine adraw_seq ?_ ?_ ?_); (· kernel_rfl); (· decide +kernel)) | simp -implicitDefEqProofs only [go_sem, slCells_own, aapp_own] | (with_reducible refine And.intro (by omega) ?_) | refine And.intro (by omega) (And.intro (by omega) ?_) | refine acond_split (fun _ => ?_) (fun _ => ?_) | refine agrd_bt (fun _ => ?_) (fun _ => ?_) | refine agrd_bf (fun _ => ?_) (fun _ => ?_) | refine retK_eq ?_ | refine retK_back (by assumption) ?_ | refine retK_eq2 ?_ | refine retK_back2 (by assumption) ?_ | (with_reducible refine And.intro ?_ ?_))
      all_goals (try (exfalso; omega))
      refine ACallK.of (ReportIn_impl _ v a (a.getD 0 0 % 2) _ (ha.sub hs)).cl ?_
      rintro u2 H2 ⟨⟨s2, S2, o2, F2⟩, k2⟩
      have hbr2 := s2.2 _ _ hbr
      have hbm2 := s2.2 _ _ hbm
      have lu2 := o2.leaf; have cu2 := o2.one
      repeat' (first | simp -implicitDefEqProofs only [go_sem] | (simp -implicitDefEqProofs only [hbm2, hbr2, lu, cu, lr, cr, lu2, cu2, blk_set_self, wr_succ, wr_zero, wr_none, set_set, Bool.and_self]) | refine acond_decF (by omega) ?_ | refine acond_decT (by omega) ?_ | refine acond_ndecF (by omega) ?_ | refine acond_ndecT (by omega) ?_ | refine acond_dec (fun _ => ?_) (fun _ => ?_) | refine acond_ndec (fun _ => ?_) (fun _ => ?_) | refine agrd_dec (fun _ => ?_) (fun _ => ?_) | refine agrd_decf (fun _ => ?_) (fun _ => ?_) | refine agrd_ndec (fun _ => ?_) (fun _ => ?_) | refine agrd_ndecf (fun _ => ?_) (fun _ => ?_) | refine abi_len_sl' (by assumption) ?_ | refine aixs_sln (by assumption) ?_ | refine afa_sl (by assumption) ?_ | (refine aK_sl (by assumption) (by omega) ?_; first | rintro _ ⟨rfl, _⟩ | (intro _ hx; obtain ⟨_, rfl, _, _⟩ := EvD.out hx) | (intro _ hx; obtain ⟨_, _, rfl, _, _, _⟩ := JobD.out hx) | rintro _ ⟨_, rfl, _⟩) | rw [SlR.one (by assumption)] | rw [SlR.leaf (by assumption)] | simp -implicitDefEqProofs (disch := omega) only [wrap_in, u8_small, Int.tmod_eq_emod_of_nonneg, Int.tdiv_eq_ediv_of_nonneg] | refine aK_sub (by assumption) ?_ | refine aix_strn (fun _ _ => ?_) | ((with_reducible refine adraw_seq ?_ ?_ ?_); (· kernel_rfl); (· decide +kernel)) | simp -implicitDefEqProofs only [go_sem, slCells_own, aapp_own] | (with_reducible refine And.intro (by omega) ?_) | refine And.intro (by omega) (And.intro (by omega) ?_) | refine acond_split (fun _ => ?_) (fun _ => ?_) | refine agrd_bt (fun _ => ?_) (fun _ => ?_) | refine agrd_bf (fun _ => ?_) (fun _ => ?_) | refine retK_eq ?_ | refine retK_back (by assumption) ?_ | refine retK_eq2 ?_ | refine retK_back2 (by assumption) ?_ | (with_reducible refine And.intro ?_ ?_))
      exact retK_one (modelOf_end hw ht (hs.trans s2) (ho.sub s2) o2 (List.nodup_append.2 ⟨(List.nodup_append.1 hn).1, F2.1, fun x hx y hy => by have := hw'.lt' (ho.isin x hx); have := F2.2 y hy; omega⟩) (fun x hx => by rcases List.mem_append.1 hx with q | q; exact hS x (List.mem_append_left _ q); have := F2.2 x q; omega) _ _)
  · have hf : tableOk a = false := by simpa using ht
    repeat' (first | simp -implicitDefEqProofs only [go_sem] | (refine ACallK.eq (TableOk_impl _ _ a _ (ha.sub (by repeat (first | exact Sub.refl _ | assumption | refine Sub.new (by assumption) ?_ _ _ | refine Sub.kill_new (by assumption) ?_ _ _ | refine Sub.trans ?_ (by assumption))))) ?_; rw [hf]) | (simp -implicitDefEqProofs only [wr_succ, wr_zero, wr_none, set_set]) | refine acond_decF (by omega) ?_ | refine acond_decT (by omega) ?_ | refine acond_ndecF (by omega) ?_ | refine acond_ndecT (by omega) ?_ | refine acond_dec (fun _ => ?_) (fun _ => ?_) | refine acond_ndec (fun _ => ?_) (fun _ => ?_) | refine agrd_dec (fun _ => ?_) (fun _ => ?_) | refine agrd_decf (fun _ => ?_) (fun _ => ?_) | refine agrd_ndec (fun _ => ?_) (fun _ => ?_) | refine agrd_ndecf (fun _ => ?_) (fun _ => ?_) | refine abi_len_sl' (by assumption) ?_ | refine aixs_sln (by assumption) ?_ | refine afa_sl (by assumption) ?_ | (refine aK_sl (by assumption) (by omega) ?_; first | rintro _ ⟨rfl, _⟩ | (intro _ hx; obtain ⟨_, rfl, _, _⟩ := EvD.out hx) | (intro _ hx; obtain ⟨_, _, rfl, _, _, _⟩ := JobD.out hx) | rintro _ ⟨_, rfl, _⟩) | rw [SlR.one (by assumption)] | rw [SlR.leaf (by assumption)] | simp -implicitDefEqProofs (disch := omega) only [wrap_in, u8_small, Int.tmod_eq_emod_of_nonneg, Int.tdiv_eq_ediv_of_nonneg] | refine aK_sub (by assumption) ?_ | refine aix_strn (fun _ _ => ?_) | ((with_reducible refine adraw_seq ?_ ?_ ?_); (· kernel_rfl); (· decide +kernel)) | simp -implicitDefEqProofs only [go_sem, slCells_own, aapp_own] | (with_reducible refine And.intro (by omega) ?_) | refine And.intro (by omega) (And.intro (by omega) ?_) | refine acond_split (fun _ => ?_) (fun _ => ?_) | refine agrd_bt (fun _ => ?_) (fun _ => ?_) | refine agrd_bf (fun _ => ?_) (fun _ => ?_) | refine retK_eq ?_ | refine retK_back (by assumption) ?_ | refine retK_eq2 ?_ | refine retK_back2 (by assumption) ?_ | (with_reducible refine And.intro ?_ ?_))
    exact retK_one (modelOf_none ht (by first | exact by repeat (first | exact Sub.refl _ | assumption | refine Sub.new (by assumption) ?_ _ _ | refine Sub.kill_new (by assumption) ?_ _ _ | refine Sub.trans ?_ (by assumption)) | (simp only [go_sem]; exact by repeat (first | exact Sub.refl _ | assumption | refine Sub.new (by assumption) ?_ _ _ | refine Sub.kill_new (by assumption) ?_ _ _ | refine Sub.trans ?_ (by assumption)))))
theorem cntL_krow (xs : List KRowD) : cntL xs = 2 * xs.length := by
  induction xs with
  | nil => rfl
  | cons x xs ih => show 2 + cntL xs = _; rw [ih, List.length_cons]; omega
theorem cnt_modelOf (a : List Int) : Mk.cnt (modelOf a) ≤ 100 := by
  show cntL (modelOf a).keys + cntL (modelOf a).rows ≤ 100
  rw [cntL_krow, cntL_row]
  unfold modelOf
  split
  · have h1 := keysTo_length a 4
    have h2 := reportTo_length a (a.getD 0 0 % 2) 4
    show 2 * (keysTo a 4).length + 10 * (reportTo a (a.getD 0 0 % 2) 4).length ≤ 100
    omega
  · show 2 * 0 + 10 * 0 ≤ 100; omega
end Go.Proofs.YtipfnhfcoolhaaaGreat.Aw
end
section
namespace Go.Proofs.YtipfnhfcoolhaaaGreat.Aw
open Go Go.RowKit
set_option maxRecDepth 100000
set_option maxHeartbeats 2000000
attribute [-go_sem] wr_eq
theorem szIntS_ok (W0 : World) (a : AV) (xs : List Int) (left : Int) (H : AH) (ha : SlR W0 H a xs) (h0 : 0 ≤ left) (h1 : left ≤ 1048576) : ACalls Tryz.prog W0 62 [a, .v (.int .i64 left)] H (fun v H' => v = .v (.int .i64 (szLeft left (Ob.sz xs))) ∧ H' = H) := by
  refine acallw Tryz.func62 rfl (by kernel_rfl) (by kernel_rfl) fun hc hw => ?_
  have hb := ha.2.1
  simp only [big] at hb
  rw [obsz_int]
  repeat' (first | simp -implicitDefEqProofs only [go_sem] | (simp -implicitDefEqProofs (disch := omega) only [wrap_in]) | refine acond_dec (fun _ => ?_) (fun _ => ?_) | refine abi_len_sl' (by assumption) ?_ | refine retK_eq ?_)
  all_goals (refine iv ?_; unfold szLeft; first | (rw [if_neg (by omega)]; done) | (rw [if_pos (by omega)]; done))
theorem toIntS_new (W0 : World) (a : AV) (xs : List Int) (H : AH) (ha : SlR W0 H a xs) (hz : Ob.sz xs ≤ 1048576) : ACalls Tryz.prog W0 10 [a] H (fun v H' => NewS H H' v xs) := by
  refine acallw Tryz.func10 rfl (by kernel_rfl) (by kernel_rfl) fun hc hw => ?_
  rw [obsz_int] at hz
  have hx := mem_I ha
  repeat' (first | simp -implicitDefEqProofs only [go_sem] | refine abi_len_sl' (by assumption) ?_ | (with_reducible refine And.intro (by omega) ?_) | fail)
  refine acode_while (fun i : Nat => [(0, a), (3, .sl H.nxt 0 xs.length), (4, .v (.int .i64 i))]) (fun i H' => H'.wf ∧ i ≤ xs.length ∧ LayO H H' xs.length i xs) (fun i => xs.length - i) 0 ⟨hw.new _ _, by omega, LayO.start hw rfl rfl⟩ ?_
  rintro i H' ⟨hw', hi, hL⟩
  have hs := hL.sub
  obtain ⟨cs, T, hB, hcl, -, -⟩ := hL.blk
  have hcl' : cs.length = xs.length := by rw [hcl]; exact Nat.mul_one _
  repeat' (first | simp -implicitDefEqProofs only [go_sem] | (simp only [hB]) | refine acond_dec (fun _ => ?_) (fun _ => ?_) | refine abi_len_sl' (by assumption) ?_ | refine aixs_sln (by assumption) ?_ | (refine aK_sl (by assumption) (by omega) ?_; first | rintro _ ⟨rfl, _⟩ | (intro _ hx; obtain ⟨_, rfl, _, _⟩ := EvD.out hx) | (intro _ hx; obtain ⟨_, _, rfl, _, _, _⟩ := JobD.out hx) | rintro _ ⟨_, rfl, _⟩) | simp -implicitDefEqProofs (disch := omega) only [wrap_in, u8_small, Int.tmod_eq_emod_of_nonneg, Int.tdiv_eq_ediv_of_nonneg] | (with_reducible refine And.intro (by omega) ?_) | (with_reducible refine And.intro ?_ ?_))
  all_goals first
    | rfl
    | omega
    | (obtain rfl : i = xs.length := by omega
       exact retK_one (hL.done (by simp only [big]; omega)))
    | (have hlt : i < xs.length := by omega
       have h := LayO.put hw hw' hL (Sub.refl _) hlt hlt (c := [.v (.int .i64 xs[i])]) (S2 := []) ⟨rfl, rfl, hx _ (List.getElem_mem hlt)⟩ (Fresh.nil _) hB
       rw [show i * Ob.n Int = i from Nat.mul_one i] at h
       exact back (i + 1) ⟨hw'.set (Nat.lt_of_lt_of_le hL.lt (Nat.le_refl _)) _, by omega, h⟩ (by omega))
theorem eqIntS_ok (W0 : World) (a b : AV) (xs ys : List Int) (H : AH) (ha : SlR W0 H a xs) (hb : SlR W0 H b ys) : ACalls Tryz.prog W0 13 [a, b] H (fun v H' => v = .v (.bool (decide (xs = ys))) ∧ H' = H) := by
  refine acallw Tryz.func13 rfl (by kernel_rfl) (by kernel_rfl) fun hc hw => ?_
  have ha2 := ha.2.1
  have hb2 := hb.2.1
  simp only [big] at ha2 hb2
  repeat' (first | simp -implicitDefEqProofs only [go_sem] | refine acond_ndec (fun _ => ?_) (fun _ => ?_) | refine abi_len_sl' (by assumption) ?_ | refine retK_eq ?_)
  · rw [decide_eq_false (fun h => by subst h; exact absurd rfl (by assumption))]
  refine acode_while (fun i : Nat => [(0, a), (1, b), (5, .v (.int .i64 i))]) (fun i H' => H' = H ∧ i ≤ xs.length ∧ xs.take i = ys.take i) (fun i => xs.length - i) 0 ⟨rfl, by omega, by simp⟩ ?_
  rintro i _ ⟨rfl, hi, hE⟩
  have hll : xs.length = ys.length := by omega
  rcases Nat.lt_or_ge i xs.length with hlt | hge
  · have hlt2 : i < ys.length := by omega
    repeat' (first | simp -implicitDefEqProofs only [go_sem] | refine acond_decT (by omega) ?_ | refine acond_ndec (fun _ => ?_) (fun _ => ?_) | refine abi_len_sl' (by assumption) ?_ | refine aixs_sln (by assumption) ?_ | (refine aK_sl (by assumption) (by omega) ?_; first | rintro _ ⟨rfl, _⟩ | (intro _ hx; obtain ⟨_, rfl, _, _⟩ := EvD.out hx) | (intro _ hx; obtain ⟨_, _, rfl, _, _, _⟩ := JobD.out hx) | rintro _ ⟨_, rfl, _⟩) | simp -implicitDefEqProofs (disch := omega) only [wrap_in, u8_small, Int.tmod_eq_emod_of_nonneg, Int.tdiv_eq_ediv_of_nonneg] | ((with_reducible refine adraw_seq ?_ ?_ ?_); (· kernel_rfl); (· decide +kernel)) | refine retK_eq ?_)
    · rw [decide_eq_false (fun h => by subst h; exact absurd rfl (by assumption))]
    · exact back (i + 1) ⟨by omega, by rw [List.take_succ_eq_append_getElem hlt, List.take_succ_eq_append_getElem hlt2, hE]; congr 2⟩ (by omega)
  · repeat' (first | simp -implicitDefEqProofs only [go_sem] | refine acond_decF (by omega) ?_ | refine abi_len_sl' (by assumption) ?_ | refine retK_eq ?_)
    rw [List.take_of_length_le hge, List.take_of_length_le (by omega)] at hE
    rw [decide_eq_true hE]
end Go.Proofs.YtipfnhfcoolhaaaGreat.Aw
end
section
namespace Go.Proofs.YtipfnhfcoolhaaaGreat.Aw
open Go Go.RowKit
set_option maxRecDepth 100000
set_option maxHeartbeats 2000000
attribute [-go_sem] wr_eq
theorem markText_ok (W0 : World) (k : Int) (H : AH) (hk64 : k ≤ 9223372036854775807) : ACalls Tryz.prog W0 140 [.v (.int .i64 k)] H (fun v H' => v = .v (.string (mtext k)) ∧ H' = H) := by
  refine acallw Tryz.func140 rfl (by kernel_rfl) (by kernel_rfl) fun hc hw => ?_
  have hk : k < 100000000000000000000 := by omega
  repeat' (first | simp -implicitDefEqProofs only [go_sem] | refine acond_dec (fun _ => ?_) (fun _ => ?_) | refine retK_eq ?_)
  · rw [mtext, if_pos (by assumption)]
  · refine acode_while (fun s : Nat × Int × ByteArray => [(0, .v (.int .i64 s.2.1)), (3, .v (.string s.2.2))]) (fun s H' => Sub H H' ∧ mdig s.1 s.2.1 s.2.2 = mdig 20 k ⟨#[]⟩ ∧ s.2.1 < 10 ^ s.1 ∧ 0 ≤ s.2.1 ∧ s.2.1 ≤ k ∧ s.2.2.size + s.1 = 20) (fun s => s.2.1.toNat) (20, k, ⟨#[]⟩) ⟨Sub.refl _, rfl, by simpa using hk, by simp; omega, by simp, rfl⟩ ?_
    rintro ⟨f, j, out⟩ H' ⟨hs, hm, h1, h2, h3, h4⟩
    simp only at hm h1 h2 h3 h4 ⊢
    repeat' (first | simp -implicitDefEqProofs only [go_sem] | refine acond_dec (fun _ => ?_) (fun _ => ?_) | simp -implicitDefEqProofs (disch := omega) only [wrap_in, u8_small, Int.tmod_eq_emod_of_nonneg, Int.tdiv_eq_ediv_of_nonneg] | simp -implicitDefEqProofs only [go_sem, slCells_own, aapp_own])
    · refine aK_to _ (if_pos (by rw [strOfNums_size]; simp; omega)) ?_
      have hw1 : IntKind.i64.wrap (j / 10) = j / 10 := by
        by_cases hj : j ≤ 9223372036854775807
        · exact wrap_in _ (by omega) (by omega)
        · exact absurd hj (by have := hk64; omega)
      repeat' (first | simp -implicitDefEqProofs only [go_sem] | simp -implicitDefEqProofs (disch := omega) only [wrap_in, u8_small, Int.tmod_eq_emod_of_nonneg, Int.tdiv_eq_ediv_of_nonneg])
      cases f with
      | zero => simp at h1; omega
      | succ f =>
        refine back (f, j / 10, strOfNums [48 + j % 10] ++ out) ⟨by repeat (first | exact Sub.refl _ | assumption | refine Sub.new (by assumption) ?_ _ _ | refine Sub.kill_new (by assumption) ?_ _ _ | refine Sub.trans ?_ (by assumption)), ?_, ?_, by simp only; omega, by simp only; omega, ?_⟩ (by simp only; omega)
        · rw [← hm]; simp only [mdig]; rw [if_pos (by assumption)]
        · rw [Int.pow_succ] at h1; simp only; omega
        · simp only; rw [ByteArray.size_append, strOfNums_size]; simp; omega
    · have h0 : j = 0 := by omega
      subst h0
      have hz : out = mdig 20 k ⟨#[]⟩ := by rw [← hm]; cases f <;> simp [mdig]
      refine aK_to _ (if_pos (by have : (#[109] : Array UInt8).size = 1 := rfl; omega)) ?_
      repeat' (first | simp -implicitDefEqProofs only [go_sem] | refine retK_back (by assumption) ?_ | fail)
      rw [mtext, if_neg (by assumption), ← hz]
theorem markIntS_ok (W0 : World) (v : AV) (xs : List Int) (k : Int) (S : List Nat) (H : AH) (ho : OwnS H S v xs) (hn : S.Nodup) (h0 : 0 < k) (h1 : k + cntL xs ≤ 4611686018427387904) :
    ACalls Tryz.prog W0 14 [v, .v (.int .i64 k)] H (fun u H' => u = .v (.int .i64 (k + cntL xs)) ∧ Chg S H H' ∧ OwnS H' S v (putL xs k)) := by
  refine acallw Tryz.func14 rfl (by kernel_rfl) (by kernel_rfl) fun hc hw => ?_
  have ha := ho.slr (W0 := W0)
  have hb := ha.2.1; simp only [big] at hb
  repeat' (first | simp -implicitDefEqProofs only [go_sem])
  refine acode_while (fun i : Nat => [(0, v), (1, .v (.int .i64 (k + cntL (xs.take i)))), (5, .v (.int .i64 i))]) (fun i H' => Chg S H H' ∧ i ≤ xs.length ∧ OwnS H' S v (mkTo xs k i)) (fun i => xs.length - i) 0 ⟨Chg.refl _ _, by omega, by rw [mkTo_zero]; exact ho⟩ ?_ (by simp only [frOk, go_sem]; simp [cntL])
  rintro i H' ⟨hC, hi, hO⟩
  have hl := (hO.slr (W0 := W0)).slLen
  rw [mkTo_length] at hl
  have hc2 := cntL_take_le xs i
  rcases Nat.lt_or_ge i xs.length with hlt | hge
  · obtain ⟨b, o, pre, mid, post, S1, S2, S3, rfl, hB, hp, hm, hS, hown, put⟩ := hO.get i (by rw [mkTo_length]; exact hlt)
    rw [mkTo_get _ _ _ hlt] at hown
    simp only [mkTo_length] at *
    obtain ⟨rfl, rfl, hx⟩ := hown
    simp only [Ob.n, Nat.mul_one, List.cons_append, List.nil_append] at hB hp
    have hc := cntL_take hlt
    have hc2 := cntL_take_le xs (i + 1)
    have hc3 : Mk.cnt xs[i] = 1 := rfl
    have hne := foc_ne hS hn
    have hbS : b ∈ S := by rw [hS]; exact List.mem_cons_self ..
    generalize hkk : k + (cntL (xs.take i) : Int) = kk at *
    repeat' (first | simp -implicitDefEqProofs only [go_sem] | (simp -implicitDefEqProofs (disch := omega) only [hB, blk_set_self, Int.toNat_natCast, wr_pre hp, wr_pre0 hp, wr_succ, wr_zero, wr_none, set_set, List.length_append, List.length_cons]) | refine acond_decT (by omega) ?_ | simp -implicitDefEqProofs (disch := omega) only [wrap_in, u8_small, Int.tmod_eq_emod_of_nonneg, Int.tdiv_eq_ediv_of_nonneg] | (with_reducible refine And.intro (by omega) ?_) | fail)
    refine back (i + 1) ⟨hC.set hbS _, by omega, ?_⟩ (by omega) (by simp only [frOk, go_sem]; exact ⟨iv (by omega), iv (by omega)⟩)
    rw [← mkTo_set xs k i hlt, hkk, hS]
    exact put _ [] [_] _ (blk_set_self _ _ _) (fun x hx => blk_set_ne _ (hne x hx) _) ⟨rfl, rfl, by simp only [inI64, Mk.put]; omega⟩
  · repeat' (first | simp -implicitDefEqProofs only [go_sem] | refine acond_decF (by omega) ?_ | refine abi_len_sl' (by assumption) ?_ | fail)
    rw [List.take_of_length_le hge]
    exact retK_one ⟨rfl, hC, by rw [← mkTo_all xs k hge]; exact hO⟩
theorem heldIntS_ok (W0 : World) (v : AV) (xs : List Int) (k : Int) (H : AH) (ha : SlR W0 H v (putL xs k)) (h0 : 0 < k) (h1 : k + cntL xs ≤ 4611686018427387904) :
    ACalls Tryz.prog W0 75 [v, .v (.int .i64 k)] H (fun u H' => u = .v (.int .i64 (k + cntL xs)) ∧ H' = H) := by
  refine acallw Tryz.func75 rfl (by kernel_rfl) (by kernel_rfl) fun hc hw => ?_
  have hb := ha.2.1; simp only [big, putL_length] at hb
  have hl := ha.slLen
  rw [putL_length] at hl
  have hlen := putL_length xs k
  repeat' (first | simp -implicitDefEqProofs only [go_sem])
  refine acode_while (fun i : Nat => [(0, v), (1, .v (.int .i64 (k + cntL (xs.take i)))), (5, .v (.int .i64 i))]) (fun i H' => H' = H ∧ i ≤ xs.length) (fun i => xs.length - i) 0 ⟨rfl, by omega⟩ ?_ (by simp only [frOk, go_sem]; simp [cntL])
  rintro i _ ⟨rfl, hi⟩
  have hc2 := cntL_take_le xs i
  rcases Nat.lt_or_ge i xs.length with hlt | hge
  · have hc := cntL_take hlt
    have hc2 := cntL_take_le xs (i + 1)
    have hc3 : Mk.cnt xs[i] = 1 := rfl
    have hlp : i < (putL xs k).length := by rw [putL_length]; exact hlt
    have hg : (putL xs k)[i] = (k + (cntL (xs.take i) : Int)) := by
      have := putL_get xs k i hlt
      rw [List.getElem?_eq_getElem hlp] at this
      exact Option.some.inj this
    generalize hkk : k + (cntL (xs.take i) : Int) = kk at *
    repeat' (first | simp -implicitDefEqProofs only [go_sem] | (rw [hg]) | (simp -implicitDefEqProofs (disch := omega) only [wrap_in, Int.tmod_eq_emod_of_nonneg]) | refine acond_decT (by omega) ?_ | refine abi_len_sl' (by assumption) ?_ | refine aixs_sln (by assumption) ?_ | (refine aK_sl (by assumption) (by omega) ?_; first | rintro _ ⟨rfl, _⟩ | (intro _ hx; obtain ⟨_, rfl, _, _⟩ := EvD.out hx) | (intro _ hx; obtain ⟨_, _, rfl, _, _, _⟩ := JobD.out hx) | rintro _ ⟨_, rfl, _⟩) | fail)
    all_goals first | exact back (i + 1) (by omega) (by omega) (by simp only [frOk, go_sem]; exact ⟨iv (by omega), iv (by omega)⟩) | trace_state
  · repeat' (first | simp -implicitDefEqProofs only [go_sem] | refine acond_decF (by omega) ?_ | refine abi_len_sl' (by assumption) ?_ | refine retK_eq ?_)
    rw [List.take_of_length_le hge]
end Go.Proofs.YtipfnhfcoolhaaaGreat.Aw
end
