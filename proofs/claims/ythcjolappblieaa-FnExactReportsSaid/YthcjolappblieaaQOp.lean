/- The helpers of the laws that mark memory and look at the marks, at Op. Printed by gen5.py. -/
import Derived.Test.YthcjolappblieaaQInt
namespace Go.Proofs.Ythcjolappblieaa.Aw
open Go Go.RowKit
set_option linter.unusedVariables false
set_option linter.unusedSimpArgs false
set_option maxRecDepth 100000
set_option maxHeartbeats 2000000
attribute [-go_sem] wr_eq
theorem markOpS_ok (W0 : World) (v : AV) (xs : List OpD) (k : Int) (S : List Nat) (H : AH) (ho : OwnS H S v xs) (hn : S.Nodup) (h0 : 0 < k) (h1 : k + cntL xs ≤ 4611686018427387904) :
    ACalls Try.prog W0 201 [v, .v (.int .i64 k)] H (fun u H' => u = .v (.int .i64 (k + cntL xs)) ∧ Chg S H H' ∧ OwnS H' S v (putL xs k)) := by
  refine acallw Try.func201 rfl (by kernel_rfl) (by kernel_rfl) fun hc hw => ?_
  have ha := ho.slr (W0 := W0)
  have hb := ha.2.1; simp only [big] at hb
  repeat' (first | simp -implicitDefEqProofs only [go_sem] | refine acond_dec (fun _ => ?_) (fun _ => ?_) | refine acond_ndec (fun _ => ?_) (fun _ => ?_) | refine agrd_dec (fun _ => ?_) (fun _ => ?_) | refine agrd_decf (fun _ => ?_) (fun _ => ?_) | refine agrd_ndec (fun _ => ?_) (fun _ => ?_) | refine agrd_ndecf (fun _ => ?_) (fun _ => ?_) | refine abi_len_sl' (by assumption) ?_ | refine aixs_sln (by assumption) ?_ | refine afa_sl (by assumption) ?_ | (refine aK_sl (by assumption) (by omega) ?_; first | rintro _ ⟨rfl, _⟩ | (intro _ hx; obtain ⟨_, rfl, _, _⟩ := EvD.out hx) | (intro _ hx; obtain ⟨_, _, rfl, _, _, _⟩ := JobD.out hx) | rintro _ ⟨_, rfl, _⟩) | rw [SlR.one (by assumption)] | rw [SlR.leaf (by assumption)] | simp -implicitDefEqProofs (disch := omega) only [wrap_in, u8_small, Int.tmod_eq_emod_of_nonneg, Int.tdiv_eq_ediv_of_nonneg] | refine aK_sub (by assumption) ?_ | refine aix_strn (fun _ _ => ?_) | ((with_reducible refine adraw_seq ?_ ?_ ?_); (· kernel_rfl); (· decide +kernel)) | simp -implicitDefEqProofs only [go_sem, slCells_own, aapp_own] | refine And.intro (by omega) (And.intro (by omega) ?_) | refine acond_split (fun _ => ?_) (fun _ => ?_) | refine agrd_bt (fun _ => ?_) (fun _ => ?_) | refine agrd_bf (fun _ => ?_) (fun _ => ?_) | refine retK_eq ?_ | refine retK_back (by assumption) ?_ | refine retK_eq2 ?_ | refine retK_back2 (by assumption) ?_)
  refine acode_while (fun i : Nat => [(0, v), (1, .v (.int .i64 (k + cntL (xs.take i)))), (5, .v (.int .i64 i))]) (fun i H' => Chg S H H' ∧ i ≤ xs.length ∧ OwnS H' S v (mkTo xs k i)) (fun i => xs.length - i) 0 ⟨Chg.refl _ _, by omega, by rw [mkTo_zero]; exact ho⟩ ?_ (by simp only [frOk, go_sem]; simp [cntL])
  rintro i H' ⟨hC, hi, hO⟩
  have hl := (hO.slr (W0 := W0)).slLen
  rw [mkTo_length] at hl
  have hc2 := cntL_take_le xs i
  rcases Nat.lt_or_ge i xs.length with hlt | hge
  · obtain ⟨b, o, pre, mid, post, S1, S2, S3, rfl, hB, hp, hm, hS, hown, put⟩ := hO.get i (by rw [mkTo_length]; exact hlt)
    rw [mkTo_get _ _ _ hlt] at hown
    simp only [mkTo_length] at *
    obtain ⟨rfl, rfl, f0, f1, f2, f3⟩ := hown
    simp only [Ob.n, Nat.mul_one, List.cons_append, List.nil_append] at hB hp
    have hc := cntL_take hlt
    have hc2 := cntL_take_le xs (i + 1)
    have hc3 : Mk.cnt xs[i] = 4 := rfl
    have hne := foc_ne hS hn
    have hbS : b ∈ S := by rw [hS]; exact List.mem_cons_self ..
    generalize hkk : k + (cntL (xs.take i) : Int) = kk at *
    repeat' (first | simp -implicitDefEqProofs only [go_sem] | (simp -implicitDefEqProofs (disch := omega) only [hB, blk_set_self, Int.toNat_natCast, wr_preA hp, wr_pre0 hp, wr_succ, wr_zero, wr_none, set_set, List.length_append, List.length_cons]) | refine ACallK.eq (markText_ok _ _ _ (by omega)) ?_ | refine acond_decF (by omega) ?_ | refine acond_decT (by omega) ?_ | refine acond_ndecF (by omega) ?_ | refine acond_ndecT (by omega) ?_ | refine acond_dec (fun _ => ?_) (fun _ => ?_) | refine acond_ndec (fun _ => ?_) (fun _ => ?_) | refine agrd_dec (fun _ => ?_) (fun _ => ?_) | refine agrd_decf (fun _ => ?_) (fun _ => ?_) | refine agrd_ndec (fun _ => ?_) (fun _ => ?_) | refine agrd_ndecf (fun _ => ?_) (fun _ => ?_) | refine abi_len_sl' (by assumption) ?_ | refine aixs_sln (by assumption) ?_ | refine afa_sl (by assumption) ?_ | (refine aK_sl (by assumption) (by omega) ?_; first | rintro _ ⟨rfl, _⟩ | (intro _ hx; obtain ⟨_, rfl, _, _⟩ := EvD.out hx) | (intro _ hx; obtain ⟨_, _, rfl, _, _, _⟩ := JobD.out hx) | rintro _ ⟨_, rfl, _⟩) | rw [SlR.one (by assumption)] | rw [SlR.leaf (by assumption)] | simp -implicitDefEqProofs (disch := omega) only [wrap_in, u8_small, Int.tmod_eq_emod_of_nonneg, Int.tdiv_eq_ediv_of_nonneg] | refine aK_sub (by assumption) ?_ | refine aix_strn (fun _ _ => ?_) | ((with_reducible refine adraw_seq ?_ ?_ ?_); (· kernel_rfl); (· decide +kernel)) | simp -implicitDefEqProofs only [go_sem, slCells_own, aapp_own] | (with_reducible refine And.intro (by omega) ?_) | refine And.intro (by omega) (And.intro (by omega) ?_) | refine acond_split (fun _ => ?_) (fun _ => ?_) | refine agrd_bt (fun _ => ?_) (fun _ => ?_) | refine agrd_bf (fun _ => ?_) (fun _ => ?_) | refine retK_eq ?_ | refine retK_back (by assumption) ?_ | refine retK_eq2 ?_ | refine retK_back2 (by assumption) ?_ | (with_reducible refine And.intro ?_ ?_))
    refine back (i + 1) ⟨hC.set hbS _, by omega, ?_⟩ (by omega) (by simp only [frOk, go_sem]; exact ⟨iv (by omega), iv (by omega)⟩)
    rw [← mkTo_set xs k i hlt, hkk, hS]
    exact put _ [] [_, _, _, _] _ (blk_set_self _ _ _) (fun x hx => blk_set_ne _ (hne x hx) _) ⟨rfl, rfl, by simp only [inI64, Mk.put]; omega, by have := mtext_size; simp only [big]; exact Nat.le_trans (this _) (by decide), by simp only [inI64, Mk.put]; omega, by simp only [inI64, Mk.put]; omega⟩
  · repeat' (first | simp -implicitDefEqProofs only [go_sem] | refine acond_decF (by omega) ?_ | refine acond_decT (by omega) ?_ | refine acond_ndecF (by omega) ?_ | refine acond_ndecT (by omega) ?_ | refine acond_dec (fun _ => ?_) (fun _ => ?_) | refine acond_ndec (fun _ => ?_) (fun _ => ?_) | refine agrd_dec (fun _ => ?_) (fun _ => ?_) | refine agrd_decf (fun _ => ?_) (fun _ => ?_) | refine agrd_ndec (fun _ => ?_) (fun _ => ?_) | refine agrd_ndecf (fun _ => ?_) (fun _ => ?_) | refine abi_len_sl' (by assumption) ?_ | refine aixs_sln (by assumption) ?_ | refine afa_sl (by assumption) ?_ | (refine aK_sl (by assumption) (by omega) ?_; first | rintro _ ⟨rfl, _⟩ | (intro _ hx; obtain ⟨_, rfl, _, _⟩ := EvD.out hx) | (intro _ hx; obtain ⟨_, _, rfl, _, _, _⟩ := JobD.out hx) | rintro _ ⟨_, rfl, _⟩) | rw [SlR.one (by assumption)] | rw [SlR.leaf (by assumption)] | simp -implicitDefEqProofs (disch := omega) only [wrap_in, u8_small, Int.tmod_eq_emod_of_nonneg, Int.tdiv_eq_ediv_of_nonneg] | refine aK_sub (by assumption) ?_ | refine aix_strn (fun _ _ => ?_) | ((with_reducible refine adraw_seq ?_ ?_ ?_); (· kernel_rfl); (· decide +kernel)) | simp -implicitDefEqProofs only [go_sem, slCells_own, aapp_own] | (with_reducible refine And.intro (by omega) ?_) | refine And.intro (by omega) (And.intro (by omega) ?_) | refine acond_split (fun _ => ?_) (fun _ => ?_) | refine agrd_bt (fun _ => ?_) (fun _ => ?_) | refine agrd_bf (fun _ => ?_) (fun _ => ?_) | refine retK_eq ?_ | refine retK_back (by assumption) ?_ | refine retK_eq2 ?_ | refine retK_back2 (by assumption) ?_ | (with_reducible refine And.intro ?_ ?_))
    rw [List.take_of_length_le hge]
    exact retK_one ⟨rfl, hC, by rw [← mkTo_all xs k hge]; exact hO⟩
end Go.Proofs.Ythcjolappblieaa.Aw
