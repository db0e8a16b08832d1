/- Reports: one row is put among the others; both packages. -/
import Derived.Test.YtipfnhfcoolhaaaGreatFp
import Derived.Test.YtipfnhfcoolhaaaGreatFbs
import Derived.Test.YtipfnhfcoolhaaaGreatFv
import Derived.Test.YtipfnhfcoolhaaaGreatFn
namespace Go.Proofs.YtipfnhfcoolhaaaGreat.Aw
open Go Go.RowKit
set_option linter.unusedVariables false
set_option linter.unusedSimpArgs false
set_option maxRecDepth 100000
set_option maxHeartbeats 2000000
theorem put_ok (W0 : World) (v : AV) (l : List RowD) (r : RowD) (S : List Nat) (H : AH) (ho : OwnS H S v l) (hn : S.Nodup) (hs : SortedK RowD.key l) (hl : l.length ≤ 1000) (hr : rowB r) :
    ACalls Tryz.prog W0 137 [v, .agg (rowCells r)] H (fun u H' => ∃ S', OwnS H' S' u (addRow l r) ∧ Upd S H H' S') := by
  refine acallw Tryz.func137 rfl (by kernel_rfl) (by kernel_rfl) fun hc hw => ?_
  simp only [rowCells]
  have hsl := ho.slr (W0 := W0)
  have hlt := fun b hb => hw.lt' (ho.isin b hb)
  repeat' (first | simp -implicitDefEqProofs only [go_sem] | (refine ACallK.of (BinarySearchFuncRow_ok _ _ l r.key _ _ (SlR.sub' hsl) hs (fun cs x hx => put1_ok _ _ _ _ _ hx)) ?_; rintro _ _ ⟨⟨i, hA, rfl⟩, rfl⟩) | refine ACallK.eq (Quiet_impl _ _ r _ ⟨rfl, hr⟩) ?_ | refine acond_decF (by omega) ?_ | refine acond_decT (by omega) ?_ | refine acond_ndecF (by omega) ?_ | refine acond_ndecT (by omega) ?_ | refine acond_dec (fun _ => ?_) (fun _ => ?_) | refine acond_ndec (fun _ => ?_) (fun _ => ?_) | refine agrd_dec (fun _ => ?_) (fun _ => ?_) | refine agrd_decf (fun _ => ?_) (fun _ => ?_) | refine agrd_ndec (fun _ => ?_) (fun _ => ?_) | refine agrd_ndecf (fun _ => ?_) (fun _ => ?_) | refine abi_len_sl' (by assumption) ?_ | refine aixs_sln (by assumption) ?_ | refine afa_sl (by assumption) ?_ | (refine aK_sl (by assumption) (by omega) ?_; first | rintro _ ⟨rfl, _⟩ | (intro _ hx; obtain ⟨_, rfl, _, _⟩ := EvD.out hx) | (intro _ hx; obtain ⟨_, _, rfl, _, _, _⟩ := JobD.out hx) | rintro _ ⟨_, rfl, _⟩) | rw [SlR.one (by assumption)] | rw [SlR.leaf (by assumption)] | simp -implicitDefEqProofs (disch := omega) only [wrap_in, u8_small, Int.tmod_eq_emod_of_nonneg, Int.tdiv_eq_ediv_of_nonneg] | refine aK_sub (by assumption) ?_ | refine aix_strn (fun _ _ => ?_) | ((with_reducible refine adraw_seq ?_ ?_ ?_); (· kernel_rfl); (· decide +kernel)) | simp -implicitDefEqProofs only [go_sem, slCells_own, aapp_own] | (with_reducible refine And.intro (by omega) ?_) | refine And.intro (by omega) (And.intro (by omega) ?_) | refine acond_split (fun _ => ?_) (fun _ => ?_) | refine agrd_bt (fun _ => ?_) (fun _ => ?_) | refine agrd_bf (fun _ => ?_) (fun _ => ?_) | refine retK_eq ?_ | refine retK_back (by assumption) ?_ | refine retK_eq2 ?_ | refine retK_back2 (by assumption) ?_ | (with_reducible refine And.intro ?_ ?_))
  all_goals first
    | (have e : addRow l r = l := by { unfold addRow putK; simp_all }
       rw [e]; exact retK_one ⟨S, ho.sub (by repeat (first | exact Sub.refl _ | assumption | refine Sub.new (by assumption) ?_ _ _ | refine Sub.kill_new (by assumption) ?_ _ _ | refine Sub.trans ?_ (by assumption))), Upd.idle (by repeat (first | exact Sub.refl _ | assumption | refine Sub.new (by assumption) ?_ _ _ | refine Sub.kill_new (by assumption) ?_ _ _ | refine Sub.trans ?_ (by assumption))) hn⟩)
    | skip
  have e : addRow l r = l.take i ++ r :: l.drop i := by
    rw [← hA.ins (by simp_all)]; unfold addRow putK; simp_all
  refine ACallK.of (InsertRowD_ok _ _ l r i _ S _ (ho.sub (by repeat (first | exact Sub.refl _ | assumption | refine Sub.new (by assumption) ?_ _ _ | refine Sub.kill_new (by assumption) ?_ _ _ | refine Sub.trans ?_ (by assumption)))) hA.1 (by omega) hr (by simp only [go_sem]; rfl) ?_) ?_
  · intro h; have := hlt _ h; omega
  rintro u H' ⟨S', h1, h2⟩
  repeat' (first | simp -implicitDefEqProofs only [go_sem] | refine acond_decF (by omega) ?_ | refine acond_decT (by omega) ?_ | refine acond_ndecF (by omega) ?_ | refine acond_ndecT (by omega) ?_ | refine acond_dec (fun _ => ?_) (fun _ => ?_) | refine acond_ndec (fun _ => ?_) (fun _ => ?_) | refine agrd_dec (fun _ => ?_) (fun _ => ?_) | refine agrd_decf (fun _ => ?_) (fun _ => ?_) | refine agrd_ndec (fun _ => ?_) (fun _ => ?_) | refine agrd_ndecf (fun _ => ?_) (fun _ => ?_) | refine abi_len_sl' (by assumption) ?_ | refine aixs_sln (by assumption) ?_ | refine afa_sl (by assumption) ?_ | (refine aK_sl (by assumption) (by omega) ?_; first | rintro _ ⟨rfl, _⟩ | (intro _ hx; obtain ⟨_, rfl, _, _⟩ := EvD.out hx) | (intro _ hx; obtain ⟨_, _, rfl, _, _, _⟩ := JobD.out hx) | rintro _ ⟨_, rfl, _⟩) | rw [SlR.one (by assumption)] | rw [SlR.leaf (by assumption)] | simp -implicitDefEqProofs (disch := omega) only [wrap_in, u8_small, Int.tmod_eq_emod_of_nonneg, Int.tdiv_eq_ediv_of_nonneg] | refine aK_sub (by assumption) ?_ | refine aix_strn (fun _ _ => ?_) | ((with_reducible refine adraw_seq ?_ ?_ ?_); (· kernel_rfl); (· decide +kernel)) | simp -implicitDefEqProofs only [go_sem, slCells_own, aapp_own] | (with_reducible refine And.intro (by omega) ?_) | refine And.intro (by omega) (And.intro (by omega) ?_) | refine acond_split (fun _ => ?_) (fun _ => ?_) | refine agrd_bt (fun _ => ?_) (fun _ => ?_) | refine agrd_bf (fun _ => ?_) (fun _ => ?_) | refine retK_eq ?_ | refine retK_back (by assumption) ?_ | refine retK_eq2 ?_ | refine retK_back2 (by assumption) ?_ | (with_reducible refine And.intro ?_ ?_))
  rw [e]
  exact retK_one ⟨S', h1, h2.start (by repeat (first | exact Sub.refl _ | assumption | refine Sub.new (by assumption) ?_ _ _ | refine Sub.kill_new (by assumption) ?_ _ _ | refine Sub.trans ?_ (by assumption)))⟩
end Go.Proofs.YtipfnhfcoolhaaaGreat.Aw
