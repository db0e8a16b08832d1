/- Fixed, and the keys that are packed in tags. -/
import Derived.Test.YtipfnhfcoolhaaaGreatFk
namespace Go.Proofs.YtipfnhfcoolhaaaGreat.Aw
open Go Go.RowKit
set_option linter.unusedVariables false
set_option linter.unusedSimpArgs false
set_option maxRecDepth 100000
set_option maxHeartbeats 1000000
theorem rep_take (k : Nat) (l : List AV) (v : AV) : (List.replicate (k + 1) v ++ l).take k = List.replicate k v := by
  rw [List.take_append_of_le_length (by simp), List.take_replicate]; congr 1; omega
theorem rep_drop (k : Nat) (l : List AV) (v : AV) : (List.replicate (k + 1) v ++ l).drop (k + 1) = l := by
  rw [List.drop_append_of_le_length (by simp)]; simp
theorem Fixed_ok (W0 : World) (n : Int) (w : Nat) (H : AH) (hw1 : w = 1 ∨ w = 2 ∨ w = 3 ∨ w = 4) : ACalls Tryz.prog W0 257 [.v (.int .i64 n), .v (.int .i64 w)] H (fun v H' => v = .v (.string (fixedS n w)) ∧ H' = H) := by
  refine acallw Tryz.func257 rfl (by kernel_rfl) (by kernel_rfl) fun hc hw => ?_
  have hshr : ∀ {K : Kt} {H : AH} (t : TypeId), abinop (K := K) Tryz.prog .shr t (.v (.int .i64 n)) (.v (.int .i64 (8 * (w : Int)))) H = K.k (.v (.int .i64 (n / 256 ^ w))) H := by
    intro K H t
    rcases hw1 with rfl | rfl | rfl | rfl <;> simp [abinop, abin, IntKind.bits, Int.fdiv_eq_ediv]
  have hpow : (256 : Int) ^ w ≤ 4294967296 ∧ 0 < (256 : Int) ^ w := by rcases hw1 with rfl | rfl | rfl | rfl <;> simp
  repeat' (first | simp -implicitDefEqProofs only [go_sem] | refine acond_dec (fun _ => ?_) (fun _ => ?_) | refine acond_ndec (fun _ => ?_) (fun _ => ?_) | refine agrd_dec (fun _ => ?_) (fun _ => ?_) | refine agrd_decf (fun _ => ?_) (fun _ => ?_) | refine agrd_ndec (fun _ => ?_) (fun _ => ?_) | refine agrd_ndecf (fun _ => ?_) (fun _ => ?_) | refine abi_len_sl' (by assumption) ?_ | refine aixs_sln (by assumption) ?_ | refine afa_sl (by assumption) ?_ | (refine aK_sl (by assumption) (by omega) ?_; first | rintro _ ⟨rfl, _⟩ | (intro _ hx; obtain ⟨_, rfl, _, _⟩ := EvD.out hx) | (intro _ hx; obtain ⟨_, _, rfl, _, _, _⟩ := JobD.out hx) | rintro _ ⟨_, rfl, _⟩) | rw [SlR.one (by assumption)] | rw [SlR.leaf (by assumption)] | simp -implicitDefEqProofs (disch := omega) only [wrap_in, u8_small, Int.tmod_eq_emod_of_nonneg, Int.tdiv_eq_ediv_of_nonneg] | refine aK_sub (by assumption) ?_ | refine aix_strn (fun _ _ => ?_) | ((with_reducible refine adraw_seq ?_ ?_ ?_); (· kernel_rfl); (· decide +kernel)) | refine ACallK.eq (within_ok _ _ _ _ _) ?_ | rw [hshr] | simp -implicitDefEqProofs only [go_sem, slCells_own, aapp_own] | refine And.intro (by omega) (And.intro (by omega) ?_) | refine acond_split (fun _ => ?_) (fun _ => ?_) | refine agrd_bt (fun _ => ?_) (fun _ => ?_) | refine agrd_bf (fun _ => ?_) (fun _ => ?_) | refine retK_eq ?_ | refine retK_back (by assumption) ?_ | refine retK_eq2 ?_ | refine retK_back2 (by assumption) ?_)
  · rw [fixedS, if_neg]
    rintro ⟨h0, h⟩
    rw [Int.ediv_eq_zero_of_lt h0 h] at *
    omega
  · refine ⟨by omega, ?_⟩
    have hlt : n < 256 ^ w := by
      have h1 : n / 256 ^ w = 0 := by assumption
      have h2 := Int.lt_ediv_add_one_mul_self n hpow.2
      rw [h1] at h2; omega
    refine acode_while (fun x : Nat × Int × List Int => [(0, .v (.int .i64 x.2.1)), (5, .sl H.nxt 0 w), (6, .v (.int .i64 ((x.1 : Int) - 1)))]) (fun x H' => H' = H.new (List.replicate x.1 (AV.v (.int .u8 0)) ++ x.2.2.map fun y => AV.v (.int .u8 y)) 1 ∧ 0 ≤ x.2.1 ∧ x.2.1 ≤ 4611686018427387904 ∧ x.2.2.length + x.1 = w ∧ fixL w n = fixL x.1 x.2.1 ++ x.2.2) (fun x => x.1) (w, n, []) ⟨by simp [zerosA_one], by show 0 ≤ n; omega, by show n ≤ 4611686018427387904; omega, by simp, by simp⟩ ?_
    rintro ⟨k, m, l⟩ H' ⟨hH, h0, h1, hl, hF⟩
    simp only at hH h0 h1 hl hF
    subst hH
    cases k with
    | zero =>
      have e : (((0 : Nat) : Int) - 1) = -1 := rfl
      repeat' (first | simp -implicitDefEqProofs only [go_sem] | refine acond_dec (fun _ => ?_) (fun _ => ?_) | refine acond_ndec (fun _ => ?_) (fun _ => ?_) | refine agrd_dec (fun _ => ?_) (fun _ => ?_) | refine agrd_decf (fun _ => ?_) (fun _ => ?_) | refine agrd_ndec (fun _ => ?_) (fun _ => ?_) | refine agrd_ndecf (fun _ => ?_) (fun _ => ?_) | refine abi_len_sl' (by assumption) ?_ | refine aixs_sln (by assumption) ?_ | refine afa_sl (by assumption) ?_ | (refine aK_sl (by assumption) (by omega) ?_; first | rintro _ ⟨rfl, _⟩ | (intro _ hx; obtain ⟨_, rfl, _, _⟩ := EvD.out hx) | (intro _ hx; obtain ⟨_, _, rfl, _, _, _⟩ := JobD.out hx) | rintro _ ⟨_, rfl, _⟩) | rw [SlR.one (by assumption)] | rw [SlR.leaf (by assumption)] | simp -implicitDefEqProofs (disch := omega) only [wrap_in, u8_small, Int.tmod_eq_emod_of_nonneg, Int.tdiv_eq_ediv_of_nonneg] | refine aK_sub (by assumption) ?_ | refine aix_strn (fun _ _ => ?_) | ((with_reducible refine adraw_seq ?_ ?_ ?_); (· kernel_rfl); (· decide +kernel)) | simp only [e] | (rw [slInts' (l := l) (by simp only [go_sem]; rfl) (by omega)]) | simp -implicitDefEqProofs only [go_sem, slCells_own, aapp_own] | refine And.intro (by omega) (And.intro (by omega) ?_) | refine acond_split (fun _ => ?_) (fun _ => ?_) | refine agrd_bt (fun _ => ?_) (fun _ => ?_) | refine agrd_bf (fun _ => ?_) (fun _ => ?_) | refine retK_eq ?_ | refine retK_back (by assumption) ?_ | refine retK_eq2 ?_ | refine retK_back2 (by assumption) ?_)
      · exfalso; omega
      · rw [fixedS, if_pos ⟨by omega, hlt⟩, hF]; simp [fixL]
    | succ k =>
      have e : (((k + 1 : Nat) : Int) - 1) = k := by omega
      repeat' (first | simp -implicitDefEqProofs only [go_sem] | refine acond_dec (fun _ => ?_) (fun _ => ?_) | refine acond_ndec (fun _ => ?_) (fun _ => ?_) | refine agrd_dec (fun _ => ?_) (fun _ => ?_) | refine agrd_decf (fun _ => ?_) (fun _ => ?_) | refine agrd_ndec (fun _ => ?_) (fun _ => ?_) | refine agrd_ndecf (fun _ => ?_) (fun _ => ?_) | refine abi_len_sl' (by assumption) ?_ | refine aixs_sln (by assumption) ?_ | refine afa_sl (by assumption) ?_ | (refine aK_sl (by assumption) (by omega) ?_; first | rintro _ ⟨rfl, _⟩ | (intro _ hx; obtain ⟨_, rfl, _, _⟩ := EvD.out hx) | (intro _ hx; obtain ⟨_, _, rfl, _, _, _⟩ := JobD.out hx) | rintro _ ⟨_, rfl, _⟩) | rw [SlR.one (by assumption)] | rw [SlR.leaf (by assumption)] | simp -implicitDefEqProofs (disch := omega) only [wrap_in, u8_small, Int.tmod_eq_emod_of_nonneg, Int.tdiv_eq_ediv_of_nonneg] | refine aK_sub (by assumption) ?_ | refine aix_strn (fun _ _ => ?_) | ((with_reducible refine adraw_seq ?_ ?_ ?_); (· kernel_rfl); (· decide +kernel)) | simp only [e] | (rw [u8_wrap]) | simp -implicitDefEqProofs only [go_sem, slCells_own, aapp_own] | refine And.intro (by omega) (And.intro (by omega) ?_) | refine acond_split (fun _ => ?_) (fun _ => ?_) | refine agrd_bt (fun _ => ?_) (fun _ => ?_) | refine agrd_bf (fun _ => ?_) (fun _ => ?_) | refine retK_eq ?_ | refine retK_back (by assumption) ?_ | refine retK_eq2 ?_ | refine retK_back2 (by assumption) ?_)
      · refine ⟨by simp, ?_⟩
        refine back (k, m / 256, (m % 256) :: l) ⟨?_, by show 0 ≤ m / 256; omega, by show m / 256 ≤ _; omega, by show l.length + 1 + k = w; omega, by rw [hF]; simp [fixL]⟩ (by show k < k + 1; omega) (by first | (simp only [frOk, go_sem]; done) | (simp only [frOk, go_sem]; simp; done))
        simp only [List.map_cons]
        have e1 := rep_take k (l.map fun y => AV.v (Value.int .u8 y)) (AV.v (.int .u8 0))
        have e2 := rep_drop k (l.map fun y => AV.v (Value.int .u8 y)) (AV.v (.int .u8 0))
        rw [e2]
        first | done | rw [e1]
      · exfalso; omega
  · rw [fixedS, if_neg (by omega)]
  · exfalso; omega
theorem fixedS_size (n : Int) (w : Nat) : (fixedS n w).size ≤ w := by
  unfold fixedS
  split
  · rw [strOfNums_size, fixL_len]; exact Nat.le_refl _
  · exact Nat.zero_le _
theorem UnpackKey_impl (W0 : World) (n : Int) (H : AH) : ACalls Tryz.prog W0 208 [.v (.int .i64 n)] H (fun v H' => v = .tup [.v (.string (unpackKey n).1), .v (.bool (unpackKey n).2)] ∧ H' = H) := by
  refine acallw Tryz.func208 rfl (by kernel_rfl) (by kernel_rfl) fun hc hw => ?_
  repeat' (first | simp -implicitDefEqProofs only [go_sem] | refine acond_dec (fun _ => ?_) (fun _ => ?_) | refine acond_ndec (fun _ => ?_) (fun _ => ?_) | refine agrd_dec (fun _ => ?_) (fun _ => ?_) | refine agrd_decf (fun _ => ?_) (fun _ => ?_) | refine agrd_ndec (fun _ => ?_) (fun _ => ?_) | refine agrd_ndecf (fun _ => ?_) (fun _ => ?_) | refine abi_len_sl' (by assumption) ?_ | refine aixs_sln (by assumption) ?_ | refine afa_sl (by assumption) ?_ | (refine aK_sl (by assumption) (by omega) ?_; first | rintro _ ⟨rfl, _⟩ | (intro _ hx; obtain ⟨_, rfl, _, _⟩ := EvD.out hx) | (intro _ hx; obtain ⟨_, _, rfl, _, _, _⟩ := JobD.out hx) | rintro _ ⟨_, rfl, _⟩) | rw [SlR.one (by assumption)] | rw [SlR.leaf (by assumption)] | simp -implicitDefEqProofs (disch := omega) only [wrap_in, u8_small, Int.tmod_eq_emod_of_nonneg, Int.tdiv_eq_ediv_of_nonneg] | refine aK_sub (by assumption) ?_ | refine aix_strn (fun _ _ => ?_) | ((with_reducible refine adraw_seq ?_ ?_ ?_); (· kernel_rfl); (· decide +kernel)) | simp -implicitDefEqProofs only [go_sem, slCells_own, aapp_own] | refine And.intro (by omega) (And.intro (by omega) ?_) | refine acond_split (fun _ => ?_) (fun _ => ?_) | refine agrd_bt (fun _ => ?_) (fun _ => ?_) | refine agrd_bf (fun _ => ?_) (fun _ => ?_) | refine retK_eq ?_ | refine retK_back (by assumption) ?_ | refine retK_eq2 ?_ | refine retK_back2 (by assumption) ?_)
  refine acode_while (fun k : Nat => [(0, .v (.int .i64 n)), (4, .v (.int .i64 k))]) (fun k H' => H' = H ∧ 1 ≤ k ∧ k ≤ 5 ∧ ∀ w : Nat, 1 ≤ w → w < k → ¬ (0 < n ∧ n < 256 ^ w ∧ packKey (strOfNums (fixL w n)) = n)) (fun k => 5 - k) 1 ⟨rfl, by omega, by omega, by omega⟩ ?_
  rintro k _ ⟨rfl, hk1, hk2, hP⟩
  have hz := fixedS_size n k
  repeat' (first | simp -implicitDefEqProofs only [go_sem] | refine acond_dec (fun _ => ?_) (fun _ => ?_) | refine acond_ndec (fun _ => ?_) (fun _ => ?_) | refine agrd_dec (fun _ => ?_) (fun _ => ?_) | refine agrd_decf (fun _ => ?_) (fun _ => ?_) | refine agrd_ndec (fun _ => ?_) (fun _ => ?_) | refine agrd_ndecf (fun _ => ?_) (fun _ => ?_) | refine abi_len_sl' (by assumption) ?_ | refine aixs_sln (by assumption) ?_ | refine afa_sl (by assumption) ?_ | (refine aK_sl (by assumption) (by omega) ?_; first | rintro _ ⟨rfl, _⟩ | (intro _ hx; obtain ⟨_, rfl, _, _⟩ := EvD.out hx) | (intro _ hx; obtain ⟨_, _, rfl, _, _, _⟩ := JobD.out hx) | rintro _ ⟨_, rfl, _⟩) | rw [SlR.one (by assumption)] | rw [SlR.leaf (by assumption)] | simp -implicitDefEqProofs (disch := omega) only [wrap_in, u8_small, Int.tmod_eq_emod_of_nonneg, Int.tdiv_eq_ediv_of_nonneg] | refine aK_sub (by assumption) ?_ | refine aix_strn (fun _ _ => ?_) | ((with_reducible refine adraw_seq ?_ ?_ ?_); (· kernel_rfl); (· decide +kernel)) | refine ACallK.eq (Fixed_ok _ _ k _ (by omega)) ?_ | refine ACallK.eq (PackKey_impl _ _ _ (by simp only [big]; omega)) ?_ | simp -implicitDefEqProofs only [go_sem, slCells_own, aapp_own] | refine And.intro (by omega) (And.intro (by omega) ?_) | refine acond_split (fun _ => ?_) (fun _ => ?_) | refine agrd_bt (fun _ => ?_) (fun _ => ?_) | refine agrd_bf (fun _ => ?_) (fun _ => ?_) | refine retK_eq ?_ | refine retK_back (by assumption) ?_ | refine retK_eq2 ?_ | refine retK_back2 (by assumption) ?_)
  all_goals first
    | (have h1 : ¬ fixedS n k = ⟨#[]⟩ := by assumption
       have h2 : packKey (fixedS n k) = n := by assumption
       have h3 : 0 ≤ n ∧ n < 256 ^ k := by
         by_cases h : 0 ≤ n ∧ n < 256 ^ k
         · exact h
         · exact absurd (by rw [fixedS, if_neg h]) h1
       have h4 : fixedS n k = strOfNums (fixL k n) := by rw [fixedS, if_pos h3]
       rw [h4] at h2 ⊢
       rw [unpack_hit ⟨by omega, by omega⟩ (by assumption) h3.2 h2])
    | (refine back (k + 1) ⟨by omega, by omega, fun w h1 h2 => ?_⟩
       rcases Nat.lt_succ_iff_lt_or_eq.1 h2 with h | rfl
       · exact hP w h1 h
       · rintro ⟨h3, h4, h5⟩
         have h6 : fixedS n w = strOfNums (fixL w n) := by rw [fixedS, if_pos ⟨by omega, h4⟩]
         have h7 : ¬ strOfNums (fixL w n) = ⟨#[]⟩ := by
           intro h
           have := congrArg ByteArray.size h
           rw [strOfNums_size, fixL_len] at this
           have h8 : (⟨#[]⟩ : ByteArray).size = 0 := rfl
           omega
         simp_all)
    | rw [unpack_none fun w h1 h2 => hP w h1 (by omega)]
theorem packKey_sz {s : ByteArray} (h : keyOk s = true) : packKey s = packN s s.size := by rw [packKey, if_pos h]
theorem Tagged_spec (W0 : World) (s : ByteArray) (k : Int) (H : AH) (hs : s.size ≤ big) : ACalls Tryz.prog W0 229 [.v (.string s), .v (.int .i64 k)] H (fun v H' => v = .v (.int .i64 (tagged s k)) ∧ H' = H) := by
  refine acallw Tryz.func229 rfl (by kernel_rfl) (by kernel_rfl) fun hc hw => ?_
  have hp := packKey_bd s
  have he := kindW_empty k
  repeat' (first | simp -implicitDefEqProofs only [go_sem] | refine acond_dec (fun _ => ?_) (fun _ => ?_) | refine acond_ndec (fun _ => ?_) (fun _ => ?_) | refine agrd_dec (fun _ => ?_) (fun _ => ?_) | refine agrd_decf (fun _ => ?_) (fun _ => ?_) | refine agrd_ndec (fun _ => ?_) (fun _ => ?_) | refine agrd_ndecf (fun _ => ?_) (fun _ => ?_) | refine abi_len_sl' (by assumption) ?_ | refine aixs_sln (by assumption) ?_ | refine afa_sl (by assumption) ?_ | (refine aK_sl (by assumption) (by omega) ?_; first | rintro _ ⟨rfl, _⟩ | (intro _ hx; obtain ⟨_, rfl, _, _⟩ := EvD.out hx) | (intro _ hx; obtain ⟨_, _, rfl, _, _, _⟩ := JobD.out hx) | rintro _ ⟨_, rfl, _⟩) | rw [SlR.one (by assumption)] | rw [SlR.leaf (by assumption)] | simp -implicitDefEqProofs (disch := omega) only [wrap_in, u8_small, Int.tmod_eq_emod_of_nonneg, Int.tdiv_eq_ediv_of_nonneg] | refine aK_sub (by assumption) ?_ | refine aix_strn (fun _ _ => ?_) | ((with_reducible refine adraw_seq ?_ ?_ ?_); (· kernel_rfl); (· decide +kernel)) | refine ACallK.eq (KeyOk_spec _ _ _ hs) ?_ | refine ACallK.eq (KindWord_spec _ _ _) ?_ | refine ACallK.eq (PackKey_spec _ _ _ hs) ?_ | simp -implicitDefEqProofs only [go_sem, slCells_own, aapp_own] | refine And.intro (by omega) (And.intro (by omega) ?_) | refine acond_split (fun _ => ?_) (fun _ => ?_) | refine agrd_bt (fun _ => ?_) (fun _ => ?_) | refine agrd_bf (fun _ => ?_) (fun _ => ?_) | refine retK_eq ?_ | refine retK_back (by assumption) ?_ | refine retK_eq2 ?_ | refine retK_back2 (by assumption) ?_)
  all_goals
    refine iv ?_
    unfold tagged
    by_cases hk : 1 ≤ k ∧ k ≤ 3
    · (try rw [Go.IntWalk.i64_in (packKey s * 4) (by omega)])
      (try rw [Go.IntWalk.i64_in (4 * packKey s) (by omega)])
      (try rw [Go.IntWalk.i64_in _ (by omega)])
      simp_all <;> omega
    · simp_all <;> omega
theorem Tagged_impl (W0 : World) (s : ByteArray) (k : Int) (H : AH) (hs : s.size ≤ big) : ACalls Tryz.prog W0 173 [.v (.string s), .v (.int .i64 k)] H (fun v H' => v = .v (.int .i64 (tagged s k)) ∧ H' = H) := by
  refine acallw Tryz.func173 rfl (by kernel_rfl) (by kernel_rfl) fun hc hw => ?_
  have hp := packKey_bd s
  have he := kindW_empty k
  repeat' (first | simp -implicitDefEqProofs only [go_sem] | refine acond_dec (fun _ => ?_) (fun _ => ?_) | refine acond_ndec (fun _ => ?_) (fun _ => ?_) | refine agrd_dec (fun _ => ?_) (fun _ => ?_) | refine agrd_decf (fun _ => ?_) (fun _ => ?_) | refine agrd_ndec (fun _ => ?_) (fun _ => ?_) | refine agrd_ndecf (fun _ => ?_) (fun _ => ?_) | refine abi_len_sl' (by assumption) ?_ | refine aixs_sln (by assumption) ?_ | refine afa_sl (by assumption) ?_ | (refine aK_sl (by assumption) (by omega) ?_; first | rintro _ ⟨rfl, _⟩ | (intro _ hx; obtain ⟨_, rfl, _, _⟩ := EvD.out hx) | (intro _ hx; obtain ⟨_, _, rfl, _, _, _⟩ := JobD.out hx) | rintro _ ⟨_, rfl, _⟩) | rw [SlR.one (by assumption)] | rw [SlR.leaf (by assumption)] | simp -implicitDefEqProofs (disch := omega) only [wrap_in, u8_small, Int.tmod_eq_emod_of_nonneg, Int.tdiv_eq_ediv_of_nonneg] | refine aK_sub (by assumption) ?_ | refine aix_strn (fun _ _ => ?_) | ((with_reducible refine adraw_seq ?_ ?_ ?_); (· kernel_rfl); (· decide +kernel)) | refine ACallK.eq (KeyOk_impl _ _ _ hs) ?_ | refine ACallK.eq (KindWord_impl _ _ _) ?_ | refine ACallK.eq (PackKey_impl _ _ _ hs) ?_ | simp -implicitDefEqProofs only [go_sem, slCells_own, aapp_own] | refine And.intro (by omega) (And.intro (by omega) ?_) | refine acond_split (fun _ => ?_) (fun _ => ?_) | refine agrd_bt (fun _ => ?_) (fun _ => ?_) | refine agrd_bf (fun _ => ?_) (fun _ => ?_) | refine retK_eq ?_ | refine retK_back (by assumption) ?_ | refine retK_eq2 ?_ | refine retK_back2 (by assumption) ?_)
  all_goals
    refine iv ?_
    unfold tagged
    by_cases hk : 1 ≤ k ∧ k ≤ 3
    · (try rw [Go.IntWalk.i64_in (packKey s * 4) (by omega)])
      (try rw [Go.IntWalk.i64_in (4 * packKey s) (by omega)])
      (try rw [Go.IntWalk.i64_in _ (by omega)])
      simp_all <;> omega
    · simp_all <;> omega
theorem untag_kind (n : Int) : 0 ≤ (untag n).2 ∧ (untag n).2 ≤ 3 := by unfold untag; split <;> simp <;> omega
theorem unpackKey_size (n : Int) : (unpackKey n).1.size ≤ 4 := by
  unfold unpackKey
  split
  · rename_i h; exact (keyOk_size h.2.2).2
  · exact Nat.zero_le _
theorem untag_size (n : Int) : (untag n).1.size ≤ 4 := by
  unfold untag
  split
  · exact unpackKey_size _
  · exact Nat.zero_le _
theorem unpackKey_ok {n : Int} (h : (unpackKey n).2 = true) : keyOk (unpackKey n).1 = true ∧ packKey (unpackKey n).1 = n ∧ 1 ≤ n ∧ n ≤ 4294967295 := by
  have e : (unpackKey n).2 = true := h
  unfold unpackKey at e ⊢
  split at e
  · rename_i hc
    rw [if_pos hc]
    refine ⟨hc.2.2, ?_, hc.1, hc.2.1⟩
    have go : ∀ w : Nat, 1 ≤ w → w ≤ 4 → n < 256 ^ w → 256 ^ (w - 1) ≤ n → packKey (strOfNums (bytesF 4 n [])) = n := by
      intro w hw1 hw2 hl hg
      have hb := bytesF_fix w 4 n [] hw2 (by omega) hl (.inr hg)
      rw [List.append_nil] at hb
      have hk := hc.2.2
      rw [hb] at hk ⊢
      exact packKey_fix (by omega) hl hk
    by_cases h2 : n < 256
    · exact go 1 (by omega) (by omega) (by simpa using h2) (by simp; omega)
    by_cases h3 : n < 65536
    · exact go 2 (by omega) (by omega) (by simp; omega) (by simp; omega)
    by_cases h4 : n < 16777216
    · exact go 3 (by omega) (by omega) (by simp; omega) (by simp; omega)
    · exact go 4 (by omega) (by omega) (by simp; omega) (by simp; omega)
  · cases e
theorem Untag_spec (W0 : World) (n : Int) (H : AH) (hn : inI64 n) : ACalls Tryz.prog W0 47 [.v (.int .i64 n)] H (fun v H' => v = .tup [.v (.string (untag n).1), .v (.int .i64 (untag n).2)] ∧ H' = H) := by
  refine acallw Tryz.func47 rfl (by kernel_rfl) (by kernel_rfl) fun hc hw => ?_
  simp only [inI64] at hn
  have he := kindW_empty (n % 4)
  repeat' (first | simp -implicitDefEqProofs only [go_sem] | refine acond_dec (fun _ => ?_) (fun _ => ?_) | refine acond_ndec (fun _ => ?_) (fun _ => ?_) | refine agrd_dec (fun _ => ?_) (fun _ => ?_) | refine agrd_decf (fun _ => ?_) (fun _ => ?_) | refine agrd_ndec (fun _ => ?_) (fun _ => ?_) | refine agrd_ndecf (fun _ => ?_) (fun _ => ?_) | refine abi_len_sl' (by assumption) ?_ | refine aixs_sln (by assumption) ?_ | refine afa_sl (by assumption) ?_ | (refine aK_sl (by assumption) (by omega) ?_; first | rintro _ ⟨rfl, _⟩ | (intro _ hx; obtain ⟨_, rfl, _, _⟩ := EvD.out hx) | (intro _ hx; obtain ⟨_, _, rfl, _, _, _⟩ := JobD.out hx) | rintro _ ⟨_, rfl, _⟩) | rw [SlR.one (by assumption)] | rw [SlR.leaf (by assumption)] | simp -implicitDefEqProofs (disch := omega) only [wrap_in, u8_small, Int.tmod_eq_emod_of_nonneg, Int.tdiv_eq_ediv_of_nonneg] | refine aK_sub (by assumption) ?_ | refine aix_strn (fun _ _ => ?_) | ((with_reducible refine adraw_seq ?_ ?_ ?_); (· kernel_rfl); (· decide +kernel)) | refine ACallK.eq (l1In_ok _ _ _ _ _) ?_ | refine ACallK.eq (UnpackKey_spec _ _ _) ?_ | refine ACallK.eq (KindWord_spec _ _ _) ?_ | simp -implicitDefEqProofs only [go_sem, slCells_own, aapp_own] | refine And.intro (by omega) (And.intro (by omega) ?_) | refine acond_split (fun _ => ?_) (fun _ => ?_) | refine agrd_bt (fun _ => ?_) (fun _ => ?_) | refine agrd_bf (fun _ => ?_) (fun _ => ?_) | refine retK_eq ?_ | refine retK_back (by assumption) ?_ | refine retK_eq2 ?_ | refine retK_back2 (by assumption) ?_)
  all_goals
    refine tv ?_
    unfold untag
    by_cases hq : 1 ≤ n % 4
    · have hk : kindW (n % 4) ≠ ⟨#[]⟩ := fun h => he.1 h (by omega)
      cases hu : (unpackKey (n / 4)).2 <;> simp_all <;> (rw [if_neg (by omega)]; simp)
    · have hk : kindW (n % 4) = ⟨#[]⟩ := he.2 (by omega)
      cases hu : (unpackKey (n / 4)).2 <;> simp_all <;> (rw [if_neg (by omega)]; simp)
theorem Untag_impl (W0 : World) (n : Int) (H : AH) (hn : inI64 n) : ACalls Tryz.prog W0 129 [.v (.int .i64 n)] H (fun v H' => v = .tup [.v (.string (untag n).1), .v (.int .i64 (untag n).2)] ∧ H' = H) := by
  refine acallw Tryz.func129 rfl (by kernel_rfl) (by kernel_rfl) fun hc hw => ?_
  simp only [inI64] at hn
  by_cases hn0 : 0 ≤ n
  · repeat' (first | simp -implicitDefEqProofs only [go_sem] | refine acond_dec (fun _ => ?_) (fun _ => ?_) | refine acond_ndec (fun _ => ?_) (fun _ => ?_) | refine agrd_dec (fun _ => ?_) (fun _ => ?_) | refine agrd_decf (fun _ => ?_) (fun _ => ?_) | refine agrd_ndec (fun _ => ?_) (fun _ => ?_) | refine agrd_ndecf (fun _ => ?_) (fun _ => ?_) | refine abi_len_sl' (by assumption) ?_ | refine aixs_sln (by assumption) ?_ | refine afa_sl (by assumption) ?_ | (refine aK_sl (by assumption) (by omega) ?_; first | rintro _ ⟨rfl, _⟩ | (intro _ hx; obtain ⟨_, rfl, _, _⟩ := EvD.out hx) | (intro _ hx; obtain ⟨_, _, rfl, _, _, _⟩ := JobD.out hx) | rintro _ ⟨_, rfl, _⟩) | rw [SlR.one (by assumption)] | rw [SlR.leaf (by assumption)] | simp -implicitDefEqProofs (disch := omega) only [wrap_in, u8_small, Int.tmod_eq_emod_of_nonneg, Int.tdiv_eq_ediv_of_nonneg] | refine aK_sub (by assumption) ?_ | refine aix_strn (fun _ _ => ?_) | ((with_reducible refine adraw_seq ?_ ?_ ?_); (· kernel_rfl); (· decide +kernel)) | refine ACallK.eq (UnpackKey_impl _ _ _) ?_ | refine ACallK.eq (Tagged_impl _ _ _ _ (Nat.le_trans (unpackKey_size _) (by simp [big]))) ?_ | simp -implicitDefEqProofs only [go_sem, slCells_own, aapp_own] | refine And.intro (by omega) (And.intro (by omega) ?_) | refine acond_split (fun _ => ?_) (fun _ => ?_) | refine agrd_bt (fun _ => ?_) (fun _ => ?_) | refine agrd_bf (fun _ => ?_) (fun _ => ?_) | refine retK_eq ?_ | refine retK_back (by assumption) ?_ | refine retK_eq2 ?_ | refine retK_back2 (by assumption) ?_)
    all_goals
      refine tv ?_
      cases hu : (unpackKey (n / 4)).2 with
      | false => unfold untag; simp_all
      | true =>
        obtain ⟨h1, h2, h3, h4⟩ := unpackKey_ok hu
        by_cases hq : 1 ≤ n % 4
        · have ht : tagged (unpackKey (n / 4)).1 (n % 4) = n := by
            rw [tagged, if_pos ⟨h1, hq, by omega⟩, h2]; omega
          unfold untag; rw [if_pos ⟨by omega, by omega, hu, hq⟩] <;> simp_all
        · have ht : tagged (unpackKey (n / 4)).1 (n % 4) = 0 := by rw [tagged, if_neg (by omega)]
          unfold untag; rw [if_neg (by omega)] <;> simp_all <;> (exfalso; omega)
  · have ht : n.tdiv 4 ≤ 0 ∧ -2305843009213693953 ≤ n.tdiv 4 := by
      obtain ⟨m, rfl⟩ : ∃ m, n = -m := ⟨-n, by omega⟩
      rw [Int.neg_tdiv, Int.tdiv_eq_ediv_of_nonneg (by omega)]; omega
    have hu : unpackKey (n.tdiv 4) = (⟨#[]⟩, false) := by rw [unpackKey, if_neg (by omega)]
    have hw4 : IntKind.i64.wrap (n.tdiv 4) = n.tdiv 4 := Go.IntWalk.i64_in _ (by omega)
    repeat' (first | simp -implicitDefEqProofs only [go_sem] | refine acond_dec (fun _ => ?_) (fun _ => ?_) | refine acond_ndec (fun _ => ?_) (fun _ => ?_) | refine agrd_dec (fun _ => ?_) (fun _ => ?_) | refine agrd_decf (fun _ => ?_) (fun _ => ?_) | refine agrd_ndec (fun _ => ?_) (fun _ => ?_) | refine agrd_ndecf (fun _ => ?_) (fun _ => ?_) | refine abi_len_sl' (by assumption) ?_ | refine aixs_sln (by assumption) ?_ | refine afa_sl (by assumption) ?_ | (refine aK_sl (by assumption) (by omega) ?_; first | rintro _ ⟨rfl, _⟩ | (intro _ hx; obtain ⟨_, rfl, _, _⟩ := EvD.out hx) | (intro _ hx; obtain ⟨_, _, rfl, _, _, _⟩ := JobD.out hx) | rintro _ ⟨_, rfl, _⟩) | rw [SlR.one (by assumption)] | rw [SlR.leaf (by assumption)] | simp -implicitDefEqProofs (disch := omega) only [wrap_in, u8_small, Int.tmod_eq_emod_of_nonneg, Int.tdiv_eq_ediv_of_nonneg] | refine aK_sub (by assumption) ?_ | refine aix_strn (fun _ _ => ?_) | ((with_reducible refine adraw_seq ?_ ?_ ?_); (· kernel_rfl); (· decide +kernel)) | rw [hw4] | refine ACallK.eq (UnpackKey_impl _ _ _) ?_ | rw [hu] | refine ACallK.eq (Tagged_impl _ _ _ _ (Nat.le_trans (unpackKey_size _) (by simp [big]))) ?_ | simp -implicitDefEqProofs only [go_sem, slCells_own, aapp_own] | refine And.intro (by omega) (And.intro (by omega) ?_) | refine acond_split (fun _ => ?_) (fun _ => ?_) | refine agrd_bt (fun _ => ?_) (fun _ => ?_) | refine agrd_bf (fun _ => ?_) (fun _ => ?_) | refine retK_eq ?_ | refine retK_back (by assumption) ?_ | refine retK_eq2 ?_ | refine retK_back2 (by assumption) ?_)
    all_goals (rw [untag, if_neg (by omega)])
end Go.Proofs.YtipfnhfcoolhaaaGreat.Aw
