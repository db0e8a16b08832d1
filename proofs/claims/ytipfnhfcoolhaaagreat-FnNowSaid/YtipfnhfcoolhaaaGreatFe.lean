/- Hashes, probes and the search for a key: both packages. -/
import Derived.Test.YtipfnhfcoolhaaaGreatFm
import Derived.Test.YtipfnhfcoolhaaaGreatFv
import Derived.Test.YtipfnhfcoolhaaaGreatMA
import Derived.Test.YtipfnhfcoolhaaaGreatBC
import Derived.Laws.BitsAllLaws
namespace Go.Proofs.YtipfnhfcoolhaaaGreat.Aw
open Go Go.RowKit
set_option linter.unusedVariables false
set_option linter.unusedSimpArgs false
set_option maxRecDepth 100000
set_option maxHeartbeats 2000000
theorem hash_lt (s : ByteArray) (i : Nat) : hashN s i ^^^ (bt s i).toNat < 4294967296 := by
  refine Nat.xor_lt_two_pow (n := 32) (hashN_lt s i) ?_
  have := bt_le s i
  omega
theorem ofInt_nat64 (a : Nat) (h : a < 4294967296) : (BitVec.ofInt 64 (a : Int)).toNat = a := by
  simp [BitVec.toNat_ofInt]; omega
theorem ofInt_nat32 (a : Nat) (h : a < 4294967296) : (BitVec.ofInt 32 (a : Int)).toNat = a := by
  simp [BitVec.toNat_ofInt]; omega
theorem xor64 (a b : Nat) (ha : a < 4294967296) (hb : b < 4294967296) : bits .xor .i64 (a : Int) (b : Int) = ((a ^^^ b : Nat) : Int) := by
  have hx : a ^^^ b < 2 ^ 32 := Nat.xor_lt_two_pow (by omega) (by omega)
  show IntKind.i64.wrap ((BitVec.ofInt 64 (a : Int) ^^^ BitVec.ofInt 64 (b : Int)).toNat : Int) = _
  rw [BitVec.toNat_xor, ofInt_nat64 a ha, ofInt_nat64 b hb, wrap_in _ (by omega) (by omega)]
theorem bt_nat (s : ByteArray) (i : Nat) : bt s i = ((bt s i).toNat : Int) := by have := bt_le s i; omega
theorem hash_xor64 (s : ByteArray) (i : Nat) : bits .xor .i64 ((hashN s i : Nat) : Int) (bt s i) = ((hashN s i ^^^ (bt s i).toNat : Nat) : Int) := by
  have := bt_le s i
  have h := xor64 (hashN s i) (bt s i).toNat (hashN_lt s i) (by omega)
  rwa [← bt_nat] at h
theorem hash_xor32 (s : ByteArray) (i : Nat) : bits .xor .u32 ((hashN s i : Nat) : Int) (bt s i) = ((hashN s i ^^^ (bt s i).toNat : Nat) : Int) := by
  have := bt_le s i
  have h := u32_xor_nat (hashN s i) (bt s i).toNat (hashN_lt s i) (by omega)
  rwa [← bt_nat] at h
theorem wrap_u32 (n : Int) : IntKind.u32.wrap n = n % 4294967296 := by simp [IntKind.wrap, IntKind.bits, IntKind.signed]
theorem HashKey_spec (W0 : World) (s : ByteArray) (H : AH) (hs : s.size ≤ big) : ACalls Tryz.prog W0 254 [.v (.string s)] H (fun v H' => v = .v (.int .i64 (hashK s)) ∧ H' = H) := by
  refine acallw Tryz.func254 rfl (by kernel_rfl) (by kernel_rfl) fun hc hw => ?_
  simp only [big] at hs
  repeat' (first | simp -implicitDefEqProofs only [go_sem] | refine acond_decF (by omega) ?_ | refine acond_decT (by omega) ?_ | refine acond_ndecF (by omega) ?_ | refine acond_ndecT (by omega) ?_ | refine acond_dec (fun _ => ?_) (fun _ => ?_) | refine acond_ndec (fun _ => ?_) (fun _ => ?_) | refine agrd_dec (fun _ => ?_) (fun _ => ?_) | refine agrd_decf (fun _ => ?_) (fun _ => ?_) | refine agrd_ndec (fun _ => ?_) (fun _ => ?_) | refine agrd_ndecf (fun _ => ?_) (fun _ => ?_) | refine abi_len_sl' (by assumption) ?_ | refine aixs_sln (by assumption) ?_ | refine afa_sl (by assumption) ?_ | (refine aK_sl (by assumption) (by omega) ?_; first | rintro _ ⟨rfl, _⟩ | (intro _ hx; obtain ⟨_, rfl, _, _⟩ := EvD.out hx) | (intro _ hx; obtain ⟨_, _, rfl, _, _, _⟩ := JobD.out hx) | rintro _ ⟨_, rfl, _⟩) | rw [SlR.one (by assumption)] | rw [SlR.leaf (by assumption)] | simp -implicitDefEqProofs (disch := omega) only [wrap_in, u8_small, Int.tmod_eq_emod_of_nonneg, Int.tdiv_eq_ediv_of_nonneg] | refine aK_sub (by assumption) ?_ | refine aix_strn (fun _ _ => ?_) | ((with_reducible refine adraw_seq ?_ ?_ ?_); (· kernel_rfl); (· decide +kernel)) | simp -implicitDefEqProofs only [go_sem, slCells_own, aapp_own] | (with_reducible refine And.intro (by omega) ?_) | refine And.intro (by omega) (And.intro (by omega) ?_) | refine acond_split (fun _ => ?_) (fun _ => ?_) | refine agrd_bt (fun _ => ?_) (fun _ => ?_) | refine agrd_bf (fun _ => ?_) (fun _ => ?_) | refine retK_eq ?_ | refine retK_back (by assumption) ?_ | refine retK_eq2 ?_ | refine retK_back2 (by assumption) ?_ | (with_reducible refine And.intro ?_ ?_))
  refine acode_while (fun i : Nat => [(0, .v (.string s)), (3, .v (.int .i64 (hashN s i : Nat))), (4, .v (.int .i64 i))]) (fun i H' => H' = H ∧ i ≤ s.size) (fun i => s.size - i) 0 ⟨rfl, by omega⟩ ?_ (by simp only [frOk, go_sem]; simp [hashN])
  rintro i _ ⟨rfl, hi⟩
  have hx := hash_lt s i
  repeat' (first | simp -implicitDefEqProofs only [go_sem] | (rw [hash_xor64 s i]) | (simp -implicitDefEqProofs (disch := omega) only [wrap_in, Int.tmod_eq_emod_of_nonneg]) | refine acond_decF (by omega) ?_ | refine acond_decT (by omega) ?_ | refine acond_ndecF (by omega) ?_ | refine acond_ndecT (by omega) ?_ | refine acond_dec (fun _ => ?_) (fun _ => ?_) | refine acond_ndec (fun _ => ?_) (fun _ => ?_) | refine agrd_dec (fun _ => ?_) (fun _ => ?_) | refine agrd_decf (fun _ => ?_) (fun _ => ?_) | refine agrd_ndec (fun _ => ?_) (fun _ => ?_) | refine agrd_ndecf (fun _ => ?_) (fun _ => ?_) | refine abi_len_sl' (by assumption) ?_ | refine aixs_sln (by assumption) ?_ | refine afa_sl (by assumption) ?_ | (refine aK_sl (by assumption) (by omega) ?_; first | rintro _ ⟨rfl, _⟩ | (intro _ hx; obtain ⟨_, rfl, _, _⟩ := EvD.out hx) | (intro _ hx; obtain ⟨_, _, rfl, _, _, _⟩ := JobD.out hx) | rintro _ ⟨_, rfl, _⟩) | rw [SlR.one (by assumption)] | rw [SlR.leaf (by assumption)] | simp -implicitDefEqProofs (disch := omega) only [wrap_in, u8_small, Int.tmod_eq_emod_of_nonneg, Int.tdiv_eq_ediv_of_nonneg] | refine aK_sub (by assumption) ?_ | refine aix_strn (fun _ _ => ?_) | ((with_reducible refine adraw_seq ?_ ?_ ?_); (· kernel_rfl); (· decide +kernel)) | simp -implicitDefEqProofs only [go_sem, slCells_own, aapp_own] | (with_reducible refine And.intro (by omega) ?_) | refine And.intro (by omega) (And.intro (by omega) ?_) | refine acond_split (fun _ => ?_) (fun _ => ?_) | refine agrd_bt (fun _ => ?_) (fun _ => ?_) | refine agrd_bf (fun _ => ?_) (fun _ => ?_) | refine retK_eq ?_ | refine retK_back (by assumption) ?_ | refine retK_eq2 ?_ | refine retK_back2 (by assumption) ?_ | (with_reducible refine And.intro ?_ ?_))
  · exact back (i + 1) (by omega) (by omega) (by simp only [frOk, go_sem]; exact ⟨iv (by simp only [hashN]; omega), iv (by omega)⟩)
  · obtain rfl : i = s.size := by omega
    rfl
theorem HashKey_impl (W0 : World) (s : ByteArray) (H : AH) (hs : s.size ≤ big) : ACalls Tryz.prog W0 244 [.v (.string s)] H (fun v H' => v = .v (.int .i64 (hashK s)) ∧ H' = H) := by
  refine acallw Tryz.func244 rfl (by kernel_rfl) (by kernel_rfl) fun hc hw => ?_
  simp only [big] at hs
  repeat' (first | simp -implicitDefEqProofs only [go_sem] | refine acond_decF (by omega) ?_ | refine acond_decT (by omega) ?_ | refine acond_ndecF (by omega) ?_ | refine acond_ndecT (by omega) ?_ | refine acond_dec (fun _ => ?_) (fun _ => ?_) | refine acond_ndec (fun _ => ?_) (fun _ => ?_) | refine agrd_dec (fun _ => ?_) (fun _ => ?_) | refine agrd_decf (fun _ => ?_) (fun _ => ?_) | refine agrd_ndec (fun _ => ?_) (fun _ => ?_) | refine agrd_ndecf (fun _ => ?_) (fun _ => ?_) | refine abi_len_sl' (by assumption) ?_ | refine aixs_sln (by assumption) ?_ | refine afa_sl (by assumption) ?_ | (refine aK_sl (by assumption) (by omega) ?_; first | rintro _ ⟨rfl, _⟩ | (intro _ hx; obtain ⟨_, rfl, _, _⟩ := EvD.out hx) | (intro _ hx; obtain ⟨_, _, rfl, _, _, _⟩ := JobD.out hx) | rintro _ ⟨_, rfl, _⟩) | rw [SlR.one (by assumption)] | rw [SlR.leaf (by assumption)] | simp -implicitDefEqProofs (disch := omega) only [wrap_in, u8_small, Int.tmod_eq_emod_of_nonneg, Int.tdiv_eq_ediv_of_nonneg] | refine aK_sub (by assumption) ?_ | refine aix_strn (fun _ _ => ?_) | ((with_reducible refine adraw_seq ?_ ?_ ?_); (· kernel_rfl); (· decide +kernel)) | simp -implicitDefEqProofs only [go_sem, slCells_own, aapp_own] | (with_reducible refine And.intro (by omega) ?_) | refine And.intro (by omega) (And.intro (by omega) ?_) | refine acond_split (fun _ => ?_) (fun _ => ?_) | refine agrd_bt (fun _ => ?_) (fun _ => ?_) | refine agrd_bf (fun _ => ?_) (fun _ => ?_) | refine retK_eq ?_ | refine retK_back (by assumption) ?_ | refine retK_eq2 ?_ | refine retK_back2 (by assumption) ?_ | (with_reducible refine And.intro ?_ ?_))
  refine acode_while (fun i : Nat => [(0, .v (.string s)), (3, .v (.int .u32 (hashN s i : Nat))), (6, .v (.int .i64 s.size)), (7, .v (.int .i64 i))]) (fun i H' => H' = H ∧ i ≤ s.size) (fun i => s.size - i) 0 ⟨rfl, by omega⟩ ?_ (by simp only [frOk, go_sem]; simp [hashN])
  rintro i _ ⟨rfl, hi⟩
  have hx := hash_lt s i
  have hn := hashN_lt s i
  have hb := bt_le s i
  repeat' (first | simp -implicitDefEqProofs only [go_sem] | (rw [show IntKind.u32.wrap (bt s i) = bt s i by rw [wrap_u32]; omega]) | (rw [hash_xor32 s i]) | (simp -implicitDefEqProofs (disch := omega) only [wrap_in, wrap_u32]) | refine acond_decF (by omega) ?_ | refine acond_decT (by omega) ?_ | refine acond_ndecF (by omega) ?_ | refine acond_ndecT (by omega) ?_ | refine acond_dec (fun _ => ?_) (fun _ => ?_) | refine acond_ndec (fun _ => ?_) (fun _ => ?_) | refine agrd_dec (fun _ => ?_) (fun _ => ?_) | refine agrd_decf (fun _ => ?_) (fun _ => ?_) | refine agrd_ndec (fun _ => ?_) (fun _ => ?_) | refine agrd_ndecf (fun _ => ?_) (fun _ => ?_) | refine abi_len_sl' (by assumption) ?_ | refine aixs_sln (by assumption) ?_ | refine afa_sl (by assumption) ?_ | (refine aK_sl (by assumption) (by omega) ?_; first | rintro _ ⟨rfl, _⟩ | (intro _ hx; obtain ⟨_, rfl, _, _⟩ := EvD.out hx) | (intro _ hx; obtain ⟨_, _, rfl, _, _, _⟩ := JobD.out hx) | rintro _ ⟨_, rfl, _⟩) | rw [SlR.one (by assumption)] | rw [SlR.leaf (by assumption)] | simp -implicitDefEqProofs (disch := omega) only [wrap_in, u8_small, Int.tmod_eq_emod_of_nonneg, Int.tdiv_eq_ediv_of_nonneg] | refine aK_sub (by assumption) ?_ | refine aix_strn (fun _ _ => ?_) | ((with_reducible refine adraw_seq ?_ ?_ ?_); (· kernel_rfl); (· decide +kernel)) | simp -implicitDefEqProofs only [go_sem, slCells_own, aapp_own] | (with_reducible refine And.intro (by omega) ?_) | refine And.intro (by omega) (And.intro (by omega) ?_) | refine acond_split (fun _ => ?_) (fun _ => ?_) | refine agrd_bt (fun _ => ?_) (fun _ => ?_) | refine agrd_bf (fun _ => ?_) (fun _ => ?_) | refine retK_eq ?_ | refine retK_back (by assumption) ?_ | refine retK_eq2 ?_ | refine retK_back2 (by assumption) ?_ | (with_reducible refine And.intro ?_ ?_))
  · exact back (i + 1) (by omega) (by omega) (by simp only [frOk, go_sem]; exact ⟨iv (by simp only [hashN]; omega), iv (by omega)⟩)
  · obtain rfl : i = s.size := by omega
    rfl
theorem hashK_bd (s : ByteArray) : 0 ≤ hashK s ∧ hashK s < 4294967296 := by
  have := hashN_lt s s.size
  unfold hashK; omega
theorem Probe_spec (W0 : World) (s : ByteArray) (n : Int) (H : AH) (hs : s.size ≤ big) : ACalls Tryz.prog W0 204 [.v (.string s), .v (.int .i64 n)] H (fun v H' => v = .v (.int .i64 (probe s n)) ∧ H' = H) := by
  refine acallw Tryz.func204 rfl (by kernel_rfl) (by kernel_rfl) fun hc hw => ?_
  have hh := hashK_bd s
  unfold probe
  repeat' (first | simp -implicitDefEqProofs only [go_sem] | refine acond_dec (fun _ => ?_) (fun _ => ?_) | refine acond_ndec (fun _ => ?_) (fun _ => ?_) | refine agrd_dec (fun _ => ?_) (fun _ => ?_) | refine agrd_decf (fun _ => ?_) (fun _ => ?_) | refine agrd_ndec (fun _ => ?_) (fun _ => ?_) | refine agrd_ndecf (fun _ => ?_) (fun _ => ?_) | refine abi_len_sl' (by assumption) ?_ | refine aixs_sln (by assumption) ?_ | refine afa_sl (by assumption) ?_ | (refine aK_sl (by assumption) (by omega) ?_; first | rintro _ ⟨rfl, _⟩ | (intro _ hx; obtain ⟨_, rfl, _, _⟩ := EvD.out hx) | (intro _ hx; obtain ⟨_, _, rfl, _, _, _⟩ := JobD.out hx) | rintro _ ⟨_, rfl, _⟩) | rw [SlR.one (by assumption)] | rw [SlR.leaf (by assumption)] | simp -implicitDefEqProofs (disch := omega) only [wrap_in, u8_small, Int.tmod_eq_emod_of_nonneg, Int.tdiv_eq_ediv_of_nonneg] | refine aK_sub (by assumption) ?_ | refine aix_strn (fun _ _ => ?_) | ((with_reducible refine adraw_seq ?_ ?_ ?_); (· kernel_rfl); (· decide +kernel)) | refine ACallK.eq (KeyOk_spec _ _ _ hs) ?_ | refine ACallK.eq (l1In_ok _ _ _ _ _) ?_ | refine ACallK.eq (HashKey_spec _ _ _ hs) ?_ | simp -implicitDefEqProofs only [go_sem, slCells_own, aapp_own] | refine And.intro (by omega) (And.intro (by omega) ?_) | refine acond_split (fun _ => ?_) (fun _ => ?_) | refine agrd_bt (fun _ => ?_) (fun _ => ?_) | refine agrd_bf (fun _ => ?_) (fun _ => ?_) | refine retK_eq ?_ | refine retK_back (by assumption) ?_ | refine retK_eq2 ?_ | refine retK_back2 (by assumption) ?_)
  all_goals (refine iv ?_; first | (rw [if_neg (fun k => by simp_all; done)]; done) | (rw [if_pos (by simp_all)]; first | done | omega) | (rw [if_neg (fun k => by simp_all; omega)]))
theorem Probe_impl (W0 : World) (s : ByteArray) (n : Int) (H : AH) (hs : s.size ≤ big) : ACalls Tryz.prog W0 172 [.v (.string s), .v (.int .i64 n)] H (fun v H' => v = .v (.int .i64 (probe s n)) ∧ H' = H) := by
  refine acallw Tryz.func172 rfl (by kernel_rfl) (by kernel_rfl) fun hc hw => ?_
  have hh := hashK_bd s
  unfold probe
  repeat' (first | simp -implicitDefEqProofs only [go_sem] | refine acond_dec (fun _ => ?_) (fun _ => ?_) | refine acond_ndec (fun _ => ?_) (fun _ => ?_) | refine agrd_dec (fun _ => ?_) (fun _ => ?_) | refine agrd_decf (fun _ => ?_) (fun _ => ?_) | refine agrd_ndec (fun _ => ?_) (fun _ => ?_) | refine agrd_ndecf (fun _ => ?_) (fun _ => ?_) | refine abi_len_sl' (by assumption) ?_ | refine aixs_sln (by assumption) ?_ | refine afa_sl (by assumption) ?_ | (refine aK_sl (by assumption) (by omega) ?_; first | rintro _ ⟨rfl, _⟩ | (intro _ hx; obtain ⟨_, rfl, _, _⟩ := EvD.out hx) | (intro _ hx; obtain ⟨_, _, rfl, _, _, _⟩ := JobD.out hx) | rintro _ ⟨_, rfl, _⟩) | rw [SlR.one (by assumption)] | rw [SlR.leaf (by assumption)] | simp -implicitDefEqProofs (disch := omega) only [wrap_in, u8_small, Int.tmod_eq_emod_of_nonneg, Int.tdiv_eq_ediv_of_nonneg] | refine aK_sub (by assumption) ?_ | refine aix_strn (fun _ _ => ?_) | ((with_reducible refine adraw_seq ?_ ?_ ?_); (· kernel_rfl); (· decide +kernel)) | refine ACallK.eq (KeyOk_impl _ _ _ hs) ?_ | refine ACallK.eq (within_ok _ _ _ _ _) ?_ | refine ACallK.eq (HashKey_impl _ _ _ hs) ?_ | simp -implicitDefEqProofs only [go_sem, slCells_own, aapp_own] | refine And.intro (by omega) (And.intro (by omega) ?_) | refine acond_split (fun _ => ?_) (fun _ => ?_) | refine agrd_bt (fun _ => ?_) (fun _ => ?_) | refine agrd_bf (fun _ => ?_) (fun _ => ?_) | refine retK_eq ?_ | refine retK_back (by assumption) ?_ | refine retK_eq2 ?_ | refine retK_back2 (by assumption) ?_)
  all_goals (refine iv ?_; first | (rw [if_neg (fun k => by simp_all; done)]; done) | (rw [if_pos (by simp_all)]; first | done | omega) | (rw [if_neg (fun k => by simp_all; omega)]))
end Go.Proofs.YtipfnhfcoolhaaaGreat.Aw
