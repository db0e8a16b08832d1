/- The search for a key, and records at once: both packages. -/
import Derived.Test.YtipfnhfcoolhaaaFh
import Derived.Test.YtipfnhfcoolhaaaWp
namespace Go.Proofs.Ytipfnhfcoolhaaa.Aw
open Go Go.RowKit
set_option linter.unusedVariables false
set_option linter.unusedSimpArgs false
set_option maxRecDepth 100000
set_option maxHeartbeats 2000000
attribute [-go_sem] wr_eq
theorem probe_key {key : ByteArray} {n : Nat} (hk : keyOk key = true) (hn : n < 4) : keyCell (probe key n) = 3 + probe key n ∧ 3 ≤ 3 + probe key n ∧ 3 + probe key n ≤ 6 := by
  have h := probe_bd hk (n := (n : Int)) (by omega) (by omega)
  rw [keyCell, if_pos h]; omega
theorem keyAt6_eq {a : List Int} {key : ByteArray} {n : Nat} (hk : keyOk key = true) (hn : n < 4) : keyAt6 a key n = a.getD (3 + probe key n).toNat 0 := by
  have h := probe_bd hk (n := (n : Int)) (by omega) (by omega)
  rw [keyAt6]; congr 1; omega
/-- The search's i steps so far found nothing. -/
theorem find6_step (a : List Int) (key : ByteArray) (f n : Nat) : find6 a key (f + 1) n = if keyAt6 a key n = 0 then (-1, 0, probe key n) else if (untag (keyAt6 a key n)).1 = key then (probe key n, (untag (keyAt6 a key n)).2, -1) else find6 a key f (n + 1) := rfl
theorem find6_kind {a : List Int} {key : ByteArray} (hk : keyOk key = true) : ∀ (f n : Nat), n + f ≤ 4 → (find6 a key f n).1 = -1 → (find6 a key f n).2.1 = 0
  | 0, n, _, _ => rfl
  | f + 1, n, h, he => by
    have hp := probe_bd hk (n := (n : Int)) (by omega) (by omega)
    rw [find6_step] at he ⊢
    split
    · rfl
    · rename_i h1
      rw [if_neg h1] at he
      split
      · rename_i h2
        rw [if_pos h2] at he
        simp only at he; omega
      · rename_i h2
        rw [if_neg h2] at he
        exact find6_kind hk f (n + 1) (by omega) he
theorem l6Find_ok (W0 : World) (v : AV) (a : List Int) (key : ByteArray) (H : AH) (ha : SlR W0 H v a) (hok : cellsOk a = true) (hk : keyOk key = true) (hs : key.size ≤ big) :
    ACalls Try.prog W0 242 [v, .v (.string key)] H (fun u H' => u = .tup [.v (.int .i64 (find6 a key 4 0).1), .v (.int .i64 (find6 a key 4 0).2.1), .v (.int .i64 (find6 a key 4 0).2.2)] ∧ H' = H) := by
  refine acallw Try.func242 rfl (by kernel_rfl) (by kernel_rfl) fun hc hw => ?_
  have hl := cellsOk_len hok
  repeat' (first | simp -implicitDefEqProofs only [go_sem] | refine acond_decF (by omega) ?_ | refine acond_decT (by omega) ?_ | refine acond_ndecF (by omega) ?_ | refine acond_ndecT (by omega) ?_ | refine acond_dec (fun _ => ?_) (fun _ => ?_) | refine acond_ndec (fun _ => ?_) (fun _ => ?_) | refine agrd_dec (fun _ => ?_) (fun _ => ?_) | refine agrd_decf (fun _ => ?_) (fun _ => ?_) | refine agrd_ndec (fun _ => ?_) (fun _ => ?_) | refine agrd_ndecf (fun _ => ?_) (fun _ => ?_) | refine abi_len_sl' (by assumption) ?_ | refine aixs_sln (by assumption) ?_ | refine afa_sl (by assumption) ?_ | (refine aK_sl (by assumption) (by omega) ?_; first | rintro _ ⟨rfl, _⟩ | (intro _ hx; obtain ⟨_, rfl, _, _⟩ := EvD.out hx) | (intro _ hx; obtain ⟨_, _, rfl, _, _, _⟩ := JobD.out hx) | rintro _ ⟨_, rfl, _⟩) | rw [SlR.one (by assumption)] | rw [SlR.leaf (by assumption)] | simp -implicitDefEqProofs (disch := omega) only [wrap_in, u8_small, Int.tmod_eq_emod_of_nonneg, Int.tdiv_eq_ediv_of_nonneg] | refine aK_sub (by assumption) ?_ | refine aix_strn (fun _ _ => ?_) | ((with_reducible refine adraw_seq ?_ ?_ ?_); (· kernel_rfl); (· decide +kernel)) | simp -implicitDefEqProofs only [go_sem, slCells_own, aapp_own] | (with_reducible refine And.intro (by omega) ?_) | refine And.intro (by omega) (And.intro (by omega) ?_) | refine acond_split (fun _ => ?_) (fun _ => ?_) | refine agrd_bt (fun _ => ?_) (fun _ => ?_) | refine agrd_bf (fun _ => ?_) (fun _ => ?_) | refine retK_eq ?_ | refine retK_back (by assumption) ?_ | refine retK_eq2 ?_ | refine retK_back2 (by assumption) ?_ | (with_reducible refine And.intro ?_ ?_))
  refine acode_while (fun i : Nat => [(0, v), (1, .v (.string key)), (7, .v (.int .i64 i))]) (fun i H' => H' = H ∧ i ≤ 4 ∧ find6 a key 4 0 = find6 a key (4 - i) i) (fun i => 4 - i) 0 ⟨rfl, by omega, rfl⟩ ?_
  rintro i _ ⟨rfl, hi, hf⟩
  rcases Nat.lt_or_ge i 4 with hlt | hge
  · obtain ⟨e1, e2, e3⟩ := probe_key (n := i) hk hlt
    have e4 := keyAt6_eq (a := a) hk hlt
    have hgI := getD_I ha (3 + probe key i).toNat
    have hstep := find6_step a key (4 - (i + 1)) i
    rw [show 4 - (i + 1) + 1 = 4 - i by omega, ← hf, e4] at hstep
    repeat' (first | simp -implicitDefEqProofs only [go_sem] | refine ACallK.eq (Probe_spec _ _ _ _ hs) ?_ | (refine ACallK.eq (KeyCell_spec _ _ _) ?_; rw [e1]) | (refine ixI ha ?_) | (refine rdI ha ?_) | refine ACallK.eq (Untag_spec _ _ _ hgI) ?_ | refine acond_decF (by omega) ?_ | refine acond_decT (by omega) ?_ | refine acond_ndecF (by omega) ?_ | refine acond_ndecT (by omega) ?_ | refine acond_dec (fun _ => ?_) (fun _ => ?_) | refine acond_ndec (fun _ => ?_) (fun _ => ?_) | refine agrd_dec (fun _ => ?_) (fun _ => ?_) | refine agrd_decf (fun _ => ?_) (fun _ => ?_) | refine agrd_ndec (fun _ => ?_) (fun _ => ?_) | refine agrd_ndecf (fun _ => ?_) (fun _ => ?_) | refine abi_len_sl' (by assumption) ?_ | refine aixs_sln (by assumption) ?_ | refine afa_sl (by assumption) ?_ | (refine aK_sl (by assumption) (by omega) ?_; first | rintro _ ⟨rfl, _⟩ | (intro _ hx; obtain ⟨_, rfl, _, _⟩ := EvD.out hx) | (intro _ hx; obtain ⟨_, _, rfl, _, _, _⟩ := JobD.out hx) | rintro _ ⟨_, rfl, _⟩) | rw [SlR.one (by assumption)] | rw [SlR.leaf (by assumption)] | simp -implicitDefEqProofs (disch := omega) only [wrap_in, u8_small, Int.tmod_eq_emod_of_nonneg, Int.tdiv_eq_ediv_of_nonneg] | refine aK_sub (by assumption) ?_ | refine aix_strn (fun _ _ => ?_) | ((with_reducible refine adraw_seq ?_ ?_ ?_); (· kernel_rfl); (· decide +kernel)) | simp -implicitDefEqProofs only [go_sem, slCells_own, aapp_own] | (with_reducible refine And.intro (by omega) ?_) | refine And.intro (by omega) (And.intro (by omega) ?_) | refine acond_split (fun _ => ?_) (fun _ => ?_) | refine agrd_bt (fun _ => ?_) (fun _ => ?_) | refine agrd_bf (fun _ => ?_) (fun _ => ?_) | refine retK_eq ?_ | refine retK_back (by assumption) ?_ | refine retK_eq2 ?_ | refine retK_back2 (by assumption) ?_ | (with_reducible refine And.intro ?_ ?_))
    · rw [if_pos (by assumption)] at hstep; rw [hstep]
    · rw [if_neg (by assumption), if_pos (by assumption)] at hstep; rw [hstep]
    · rw [if_neg (by assumption), if_neg (by assumption)] at hstep
      exact back (i + 1) ⟨by omega, hstep⟩ (by omega)
  · obtain rfl : i = 4 := by omega
    repeat' (first | simp -implicitDefEqProofs only [go_sem] | refine acond_decF (by omega) ?_ | refine acond_decT (by omega) ?_ | refine acond_ndecF (by omega) ?_ | refine acond_ndecT (by omega) ?_ | refine acond_dec (fun _ => ?_) (fun _ => ?_) | refine acond_ndec (fun _ => ?_) (fun _ => ?_) | refine agrd_dec (fun _ => ?_) (fun _ => ?_) | refine agrd_decf (fun _ => ?_) (fun _ => ?_) | refine agrd_ndec (fun _ => ?_) (fun _ => ?_) | refine agrd_ndecf (fun _ => ?_) (fun _ => ?_) | refine abi_len_sl' (by assumption) ?_ | refine aixs_sln (by assumption) ?_ | refine afa_sl (by assumption) ?_ | (refine aK_sl (by assumption) (by omega) ?_; first | rintro _ ⟨rfl, _⟩ | (intro _ hx; obtain ⟨_, rfl, _, _⟩ := EvD.out hx) | (intro _ hx; obtain ⟨_, _, rfl, _, _, _⟩ := JobD.out hx) | rintro _ ⟨_, rfl, _⟩) | rw [SlR.one (by assumption)] | rw [SlR.leaf (by assumption)] | simp -implicitDefEqProofs (disch := omega) only [wrap_in, u8_small, Int.tmod_eq_emod_of_nonneg, Int.tdiv_eq_ediv_of_nonneg] | refine aK_sub (by assumption) ?_ | refine aix_strn (fun _ _ => ?_) | ((with_reducible refine adraw_seq ?_ ?_ ?_); (· kernel_rfl); (· decide +kernel)) | simp -implicitDefEqProofs only [go_sem, slCells_own, aapp_own] | (with_reducible refine And.intro (by omega) ?_) | refine And.intro (by omega) (And.intro (by omega) ?_) | refine acond_split (fun _ => ?_) (fun _ => ?_) | refine agrd_bt (fun _ => ?_) (fun _ => ?_) | refine agrd_bf (fun _ => ?_) (fun _ => ?_) | refine retK_eq ?_ | refine retK_back (by assumption) ?_ | refine retK_eq2 ?_ | refine retK_back2 (by assumption) ?_ | (with_reducible refine And.intro ?_ ?_))
    rw [hf]; rfl
theorem FindKey_spec (W0 : World) (v : AV) (a : List Int) (key : ByteArray) (H : AH) (ha : SlR W0 H v a) (hs : key.size ≤ big) :
    ACalls Try.prog W0 239 [v, .v (.string key)] H (fun u H' => u = .tup [.v (.int .i64 (findKey a key).1), .v (.int .i64 (findKey a key).2)] ∧ H' = H) := by
  refine acallw Try.func239 rfl (by kernel_rfl) (by kernel_rfl) fun hc hw => ?_
  by_cases hp : cellsOk a = true ∧ keyOk key = true
  · rw [findKey, if_pos hp]
    repeat' (first | simp -implicitDefEqProofs only [go_sem] | (refine ACallK.eq (CellsOk_spec _ _ a _ (SlR.sub' ha)) ?_; rw [hp.1]) | (refine ACallK.eq (KeyOk_spec _ _ _ hs) ?_; rw [hp.2]) | refine ACallK.eq (l6Find_ok _ _ a key _ (SlR.sub' ha) hp.1 hp.2 hs) ?_ | refine acond_decF (by omega) ?_ | refine acond_decT (by omega) ?_ | refine acond_ndecF (by omega) ?_ | refine acond_ndecT (by omega) ?_ | refine acond_dec (fun _ => ?_) (fun _ => ?_) | refine acond_ndec (fun _ => ?_) (fun _ => ?_) | refine agrd_dec (fun _ => ?_) (fun _ => ?_) | refine agrd_decf (fun _ => ?_) (fun _ => ?_) | refine agrd_ndec (fun _ => ?_) (fun _ => ?_) | refine agrd_ndecf (fun _ => ?_) (fun _ => ?_) | refine abi_len_sl' (by assumption) ?_ | refine aixs_sln (by assumption) ?_ | refine afa_sl (by assumption) ?_ | (refine aK_sl (by assumption) (by omega) ?_; first | rintro _ ⟨rfl, _⟩ | (intro _ hx; obtain ⟨_, rfl, _, _⟩ := EvD.out hx) | (intro _ hx; obtain ⟨_, _, rfl, _, _, _⟩ := JobD.out hx) | rintro _ ⟨_, rfl, _⟩) | rw [SlR.one (by assumption)] | rw [SlR.leaf (by assumption)] | simp -implicitDefEqProofs (disch := omega) only [wrap_in, u8_small, Int.tmod_eq_emod_of_nonneg, Int.tdiv_eq_ediv_of_nonneg] | refine aK_sub (by assumption) ?_ | refine aix_strn (fun _ _ => ?_) | ((with_reducible refine adraw_seq ?_ ?_ ?_); (· kernel_rfl); (· decide +kernel)) | simp -implicitDefEqProofs only [go_sem, slCells_own, aapp_own] | (with_reducible refine And.intro (by omega) ?_) | refine And.intro (by omega) (And.intro (by omega) ?_) | refine acond_split (fun _ => ?_) (fun _ => ?_) | refine agrd_bt (fun _ => ?_) (fun _ => ?_) | refine agrd_bf (fun _ => ?_) (fun _ => ?_) | refine retK_eq ?_ | refine retK_back (by assumption) ?_ | refine retK_eq2 ?_ | refine retK_back2 (by assumption) ?_ | (with_reducible refine And.intro ?_ ?_))
  · rw [findKey, if_neg hp]
    repeat' (first | simp -implicitDefEqProofs only [go_sem] | (refine ACallK.eq (CellsOk_spec _ _ a _ (SlR.sub' ha)) ?_) | (refine ACallK.eq (KeyOk_spec _ _ _ hs) ?_) | refine acond_decF (by omega) ?_ | refine acond_decT (by omega) ?_ | refine acond_ndecF (by omega) ?_ | refine acond_ndecT (by omega) ?_ | refine acond_dec (fun _ => ?_) (fun _ => ?_) | refine acond_ndec (fun _ => ?_) (fun _ => ?_) | refine agrd_dec (fun _ => ?_) (fun _ => ?_) | refine agrd_decf (fun _ => ?_) (fun _ => ?_) | refine agrd_ndec (fun _ => ?_) (fun _ => ?_) | refine agrd_ndecf (fun _ => ?_) (fun _ => ?_) | refine abi_len_sl' (by assumption) ?_ | refine aixs_sln (by assumption) ?_ | refine afa_sl (by assumption) ?_ | (refine aK_sl (by assumption) (by omega) ?_; first | rintro _ ⟨rfl, _⟩ | (intro _ hx; obtain ⟨_, rfl, _, _⟩ := EvD.out hx) | (intro _ hx; obtain ⟨_, _, rfl, _, _, _⟩ := JobD.out hx) | rintro _ ⟨_, rfl, _⟩) | rw [SlR.one (by assumption)] | rw [SlR.leaf (by assumption)] | simp -implicitDefEqProofs (disch := omega) only [wrap_in, u8_small, Int.tmod_eq_emod_of_nonneg, Int.tdiv_eq_ediv_of_nonneg] | refine aK_sub (by assumption) ?_ | refine aix_strn (fun _ _ => ?_) | ((with_reducible refine adraw_seq ?_ ?_ ?_); (· kernel_rfl); (· decide +kernel)) | simp -implicitDefEqProofs only [go_sem, slCells_own, aapp_own] | (with_reducible refine And.intro (by omega) ?_) | refine And.intro (by omega) (And.intro (by omega) ?_) | refine acond_split (fun _ => ?_) (fun _ => ?_) | refine agrd_bt (fun _ => ?_) (fun _ => ?_) | refine agrd_bf (fun _ => ?_) (fun _ => ?_) | refine retK_eq ?_ | refine retK_back (by assumption) ?_ | refine retK_eq2 ?_ | refine retK_back2 (by assumption) ?_ | (with_reducible refine And.intro ?_ ?_))
    all_goals first | rfl | (exfalso; exact hp ⟨by simp_all, by simp_all⟩)
end Go.Proofs.Ytipfnhfcoolhaaa.Aw
