/- The library's search by halves at rows; its ordering. -/
import Derived.Test.YtipfnhfcoolhaaaGreatBC
import Derived.Test.YtipfnhfcoolhaaaGreatMA
import Derived.Test.YtipfnhfcoolhaaaGreatAty
namespace Go.Proofs.YtipfnhfcoolhaaaGreat.Aw
open Go Go.RowKit
set_option linter.unusedVariables false
set_option linter.unusedSimpArgs false
set_option maxRecDepth 100000
set_option maxHeartbeats 2000000
def kcmp (a b : ByteArray) : Int := if klt a b then -1 else if klt b a then 1 else 0
theorem kcmp_lt {a b : ByteArray} : kcmp a b < 0 ↔ klt a b := by
  unfold kcmp; split
  · simp_all
  · split <;> simp_all
theorem kcmp_eq {a b : ByteArray} : kcmp a b = 0 ↔ a = b := by
  unfold kcmp; split
  · constructor
    · intro h; cases h
    · rintro rfl; exact absurd (by assumption) (klt_irrefl _)
  · split
    · constructor
      · intro h; cases h
      · rintro rfl; exact absurd (by assumption) (klt_irrefl _)
    · constructor
      · intro _
        rcases klt_tri a b with h | h | h
        · exact absurd h (by assumption)
        · exact h
        · exact absurd h (by assumption)
      · intro _; rfl
theorem kcmp_of {a b : ByteArray} (n : Int) (h : (n = -1 ∧ klt a b) ∨ (n = 1 ∧ klt b a) ∨ (n = 0 ∧ a = b)) : n = kcmp a b := by
  rcases h with ⟨rfl, h⟩ | ⟨rfl, h⟩ | ⟨rfl, rfl⟩
  · simp [kcmp, h]
  · simp [kcmp, h, klt_asymm h]
  · exact (kcmp_eq.2 rfl).symm
theorem klt_gtr {a b : ByteArray} (h1 : Op.bytesLess a.toList b.toList = false) (h2 : ¬ a = b) : klt b a := by
  rcases klt_tri a b with h | rfl | h
  · unfold klt at h; rw [h1] at h; cases h
  · exact absurd rfl h2
  · exact h
theorem shr1 {P : Program} {t : TypeId} (a : Int) {H : AH} {K : Kt} : abinop (K := K) P .shr t (.v (.int .u64 a)) (.v (.int .u64 1)) H = K.k (.v (.int .u64 (a / 2))) H := by simp [abinop, abin, IntKind.bits, Int.fdiv_eq_ediv]
theorem u64_i64 {x : Int} (h1 : 0 ≤ x) (h2 : x < 18446744073709551616) : IntKind.u64.wrap (IntKind.i64.wrap x) = x := by
  unfold IntKind.wrap
  simp only [IntKind.bits, IntKind.signed]
  simp
  omega
theorem isNaNS_ok (W0 : World) (a : ByteArray) (H : AH) : ACalls Tryz.prog W0 261 [.v (.string a)] H (fun v H' => v = .v (.bool false) ∧ H' = H) := by
  refine acallw Tryz.func261 rfl (by kernel_rfl) (by kernel_rfl) fun hc hw => ?_
  repeat' (first | simp -implicitDefEqProofs only [go_sem] | refine acond_dec (fun _ => ?_) (fun _ => ?_) | refine acond_ndec (fun _ => ?_) (fun _ => ?_) | refine agrd_dec (fun _ => ?_) (fun _ => ?_) | refine agrd_decf (fun _ => ?_) (fun _ => ?_) | refine agrd_ndec (fun _ => ?_) (fun _ => ?_) | refine agrd_ndecf (fun _ => ?_) (fun _ => ?_) | refine abi_len_sl' (by assumption) ?_ | refine aixs_sln (by assumption) ?_ | refine afa_sl (by assumption) ?_ | (refine aK_sl (by assumption) (by omega) ?_; first | rintro _ ⟨rfl, _⟩ | (intro _ hx; obtain ⟨_, rfl, _, _⟩ := EvD.out hx) | (intro _ hx; obtain ⟨_, _, rfl, _, _, _⟩ := JobD.out hx) | rintro _ ⟨_, rfl, _⟩) | rw [SlR.one (by assumption)] | rw [SlR.leaf (by assumption)] | simp -implicitDefEqProofs (disch := omega) only [wrap_in, u8_small, Int.tmod_eq_emod_of_nonneg, Int.tdiv_eq_ediv_of_nonneg] | refine aK_sub (by assumption) ?_ | refine aix_strn (fun _ _ => ?_) | ((with_reducible refine adraw_seq ?_ ?_ ?_); (· kernel_rfl); (· decide +kernel)) | simp -implicitDefEqProofs only [go_sem, slCells_own, aapp_own] | refine And.intro (by omega) (And.intro (by omega) ?_) | refine acond_split (fun _ => ?_) (fun _ => ?_) | refine agrd_bt (fun _ => ?_) (fun _ => ?_) | refine agrd_bf (fun _ => ?_) (fun _ => ?_) | refine retK_eq ?_ | refine retK_back (by assumption) ?_ | refine retK_eq2 ?_ | refine retK_back2 (by assumption) ?_)
theorem CompareS_ok (W0 : World) (a b : ByteArray) (H : AH) : ACalls Tryz.prog W0 223 [.v (.string a), .v (.string b)] H (fun v H' => v = .v (.int .i64 (kcmp a b)) ∧ H' = H) := by
  refine acallw Tryz.func223 rfl (by kernel_rfl) (by kernel_rfl) fun hc hw => ?_
  repeat' (first | simp -implicitDefEqProofs only [go_sem] | refine acond_dec (fun _ => ?_) (fun _ => ?_) | refine acond_ndec (fun _ => ?_) (fun _ => ?_) | refine agrd_dec (fun _ => ?_) (fun _ => ?_) | refine agrd_decf (fun _ => ?_) (fun _ => ?_) | refine agrd_ndec (fun _ => ?_) (fun _ => ?_) | refine agrd_ndecf (fun _ => ?_) (fun _ => ?_) | refine abi_len_sl' (by assumption) ?_ | refine aixs_sln (by assumption) ?_ | refine afa_sl (by assumption) ?_ | (refine aK_sl (by assumption) (by omega) ?_; first | rintro _ ⟨rfl, _⟩ | (intro _ hx; obtain ⟨_, rfl, _, _⟩ := EvD.out hx) | (intro _ hx; obtain ⟨_, _, rfl, _, _, _⟩ := JobD.out hx) | rintro _ ⟨_, rfl, _⟩) | rw [SlR.one (by assumption)] | rw [SlR.leaf (by assumption)] | simp -implicitDefEqProofs (disch := omega) only [wrap_in, u8_small, Int.tmod_eq_emod_of_nonneg, Int.tdiv_eq_ediv_of_nonneg] | refine aK_sub (by assumption) ?_ | refine aix_strn (fun _ _ => ?_) | ((with_reducible refine adraw_seq ?_ ?_ ?_); (· kernel_rfl); (· decide +kernel)) | refine ACallK.eq (isNaNS_ok _ _ _) ?_ | simp -implicitDefEqProofs only [go_sem, slCells_own, aapp_own] | refine And.intro (by omega) (And.intro (by omega) ?_) | refine acond_split (fun _ => ?_) (fun _ => ?_) | refine agrd_bt (fun _ => ?_) (fun _ => ?_) | refine agrd_bf (fun _ => ?_) (fun _ => ?_) | refine retK_eq ?_ | refine retK_back (by assumption) ?_ | refine retK_eq2 ?_ | refine retK_back2 (by assumption) ?_)
  · rw [← kcmp_of (-1) (.inl ⟨rfl, by assumption⟩)]
  · rw [← kcmp_of 1 (.inr (.inl ⟨rfl, klt_gtr (by assumption) (by simp_all)⟩))]
  · rw [← kcmp_of 0 (.inr (.inr ⟨rfl, by simp_all⟩))]
theorem put1_ok (W0 : World) (cs : List AV) (x : RowD) (key : ByteArray) (H : AH) (hx : Ob.rep W0 H cs x) : ACalls Tryz.prog W0 222 [.agg cs, .v (.string key)] H (fun v H' => v = .v (.int .i64 (kcmp x.key key)) ∧ H' = H) := by
  refine acallw Tryz.func222 rfl (by kernel_rfl) (by kernel_rfl) fun hc hw => ?_
  obtain ⟨rfl, hx⟩ := hx
  repeat' (first | simp -implicitDefEqProofs only [go_sem] | refine acond_dec (fun _ => ?_) (fun _ => ?_) | refine acond_ndec (fun _ => ?_) (fun _ => ?_) | refine agrd_dec (fun _ => ?_) (fun _ => ?_) | refine agrd_decf (fun _ => ?_) (fun _ => ?_) | refine agrd_ndec (fun _ => ?_) (fun _ => ?_) | refine agrd_ndecf (fun _ => ?_) (fun _ => ?_) | refine abi_len_sl' (by assumption) ?_ | refine aixs_sln (by assumption) ?_ | refine afa_sl (by assumption) ?_ | (refine aK_sl (by assumption) (by omega) ?_; first | rintro _ ⟨rfl, _⟩ | (intro _ hx; obtain ⟨_, rfl, _, _⟩ := EvD.out hx) | (intro _ hx; obtain ⟨_, _, rfl, _, _, _⟩ := JobD.out hx) | rintro _ ⟨_, rfl, _⟩) | rw [SlR.one (by assumption)] | rw [SlR.leaf (by assumption)] | simp -implicitDefEqProofs (disch := omega) only [wrap_in, u8_small, Int.tmod_eq_emod_of_nonneg, Int.tdiv_eq_ediv_of_nonneg] | refine aK_sub (by assumption) ?_ | refine aix_strn (fun _ _ => ?_) | ((with_reducible refine adraw_seq ?_ ?_ ?_); (· kernel_rfl); (· decide +kernel)) | refine ACallK.eq (CompareS_ok _ _ _ _) ?_ | simp -implicitDefEqProofs only [go_sem, slCells_own, aapp_own] | refine And.intro (by omega) (And.intro (by omega) ?_) | refine acond_split (fun _ => ?_) (fun _ => ?_) | refine agrd_bt (fun _ => ?_) (fun _ => ?_) | refine agrd_bf (fun _ => ?_) (fun _ => ?_) | refine retK_eq ?_ | refine retK_back (by assumption) ?_ | refine retK_eq2 ?_ | refine retK_back2 (by assumption) ?_)
theorem At.lo {α : Type} {kf : α → ByteArray} {l : List α} {key : ByteArray} {h i j : Nat} (hs : SortedK kf l) (h1 : h < l.length) (hk : klt (kf l[h]) key) : ∀ k (hk : k < l.length), k < h + 1 → klt (kf l[k]) key := fun k h2 h3 => by
  rcases Nat.lt_succ_iff_lt_or_eq.1 h3 with h4 | rfl
  · exact klt_trans (List.pairwise_iff_getElem.1 hs k h h2 h1 h4) hk
  · exact hk
theorem At.hi {α : Type} {kf : α → ByteArray} {l : List α} {key : ByteArray} {h i j : Nat} (hs : SortedK kf l) (h1 : h < l.length) (hk : ¬ klt (kf l[h]) key) : ∀ k (hk : k < l.length), h ≤ k → ¬ klt (kf l[k]) key := fun k h2 h3 h5 => by
  rcases Nat.lt_or_ge h k with h4 | h4
  · exact hk (klt_trans (List.pairwise_iff_getElem.1 hs h k h1 h2 h4) h5)
  · obtain rfl : h = k := by omega
    exact hk h5
theorem BinarySearchFuncRow_ok (W0 : World) (a : AV) (l : List RowD) (key : ByteArray) (g : FuncId) (H : AH) (ha : SlR W0 H a l) (hs : SortedK RowD.key l) (hp : ∀ (cs : List AV) (x : RowD), Ob.rep W0 H cs x → ACalls Tryz.prog W0 g [.agg cs, .v (.string key)] H (fun v H' => v = .v (.int .i64 (kcmp x.key key)) ∧ H' = H)) :
    ACalls Tryz.prog W0 221 [a, .v (.string key), .fn g []] H (fun v H' => (∃ i : Nat, At RowD.key l key i ∧ v = .tup [.v (.int .i64 i), .v (.bool (hasK RowD.key l key))]) ∧ H' = H) := by
  refine acallw Tryz.func221 rfl (by kernel_rfl) (by kernel_rfl) fun hc hw => ?_
  have hb := ha.2.1; simp only [big] at hb
  repeat' (first | simp -implicitDefEqProofs only [go_sem] | refine acond_dec (fun _ => ?_) (fun _ => ?_) | refine acond_ndec (fun _ => ?_) (fun _ => ?_) | refine agrd_dec (fun _ => ?_) (fun _ => ?_) | refine agrd_decf (fun _ => ?_) (fun _ => ?_) | refine agrd_ndec (fun _ => ?_) (fun _ => ?_) | refine agrd_ndecf (fun _ => ?_) (fun _ => ?_) | refine abi_len_sl' (by assumption) ?_ | refine aixs_sln (by assumption) ?_ | refine afa_sl (by assumption) ?_ | (refine aK_sl (by assumption) (by omega) ?_; first | rintro _ ⟨rfl, _⟩ | (intro _ hx; obtain ⟨_, rfl, _, _⟩ := EvD.out hx) | (intro _ hx; obtain ⟨_, _, rfl, _, _, _⟩ := JobD.out hx) | rintro _ ⟨_, rfl, _⟩) | rw [SlR.one (by assumption)] | rw [SlR.leaf (by assumption)] | simp -implicitDefEqProofs (disch := omega) only [wrap_in, u8_small, Int.tmod_eq_emod_of_nonneg, Int.tdiv_eq_ediv_of_nonneg] | refine aK_sub (by assumption) ?_ | refine aix_strn (fun _ _ => ?_) | ((with_reducible refine adraw_seq ?_ ?_ ?_); (· kernel_rfl); (· decide +kernel)) | simp -implicitDefEqProofs only [go_sem, slCells_own, aapp_own] | refine And.intro (by omega) (And.intro (by omega) ?_) | refine acond_split (fun _ => ?_) (fun _ => ?_) | refine agrd_bt (fun _ => ?_) (fun _ => ?_) | refine agrd_bf (fun _ => ?_) (fun _ => ?_) | refine retK_eq ?_ | refine retK_back (by assumption) ?_ | refine retK_eq2 ?_ | refine retK_back2 (by assumption) ?_)
  refine acode_while (fun (p : Nat × Nat) => [(0, a), (1, .v (.string key)), (2, .fn g []), (8, .v (.int .i64 l.length)), (9, .v (.int .i64 p.1)), (10, .v (.int .i64 p.2))]) (fun (p : Nat × Nat) (H' : AH) => H' = H ∧ p.1 ≤ p.2 ∧ p.2 ≤ l.length ∧ (∀ (k : Nat) (h : k < l.length), k < p.1 → klt l[k].key key) ∧ (∀ (k : Nat) (h : k < l.length), p.2 ≤ k → ¬ klt l[k].key key)) (fun p => p.2 - p.1) (0, l.length) ⟨rfl, by omega, by simp only; omega, fun k _ h => by simp only at h; omega, fun k h h2 => by simp only at h2; omega⟩ ?_
  rintro ⟨i, j⟩ _ ⟨rfl, hij, hj, hP, hQ⟩
  simp only at hij hj hP hQ ⊢
  have hm1 : IntKind.u64.wrap (IntKind.i64.wrap ((i : Int) + (j : Int))) = ((i + j : Nat) : Int) := by rw [u64_i64 (by omega) (by omega)]; simp
  have hm2 : ((i + j : Nat) : Int) / 2 = (((i + j) / 2 : Nat) : Int) := by omega
  generalize hmid : (i + j) / 2 = m at hm2
  repeat' (first | simp -implicitDefEqProofs only [go_sem] | refine acond_dec (fun _ => ?_) (fun _ => ?_) | refine acond_ndec (fun _ => ?_) (fun _ => ?_) | refine agrd_dec (fun _ => ?_) (fun _ => ?_) | refine agrd_decf (fun _ => ?_) (fun _ => ?_) | refine agrd_ndec (fun _ => ?_) (fun _ => ?_) | refine agrd_ndecf (fun _ => ?_) (fun _ => ?_) | refine abi_len_sl' (by assumption) ?_ | refine aixs_sln (by assumption) ?_ | refine afa_sl (by assumption) ?_ | (refine aK_slw (by assumption) (by omega) ?_; intro _ _) | (refine aK_sl (by assumption) (by omega) ?_; first | rintro _ ⟨rfl, _⟩ | (intro _ hx; obtain ⟨_, rfl, _, _⟩ := EvD.out hx) | (intro _ hx; obtain ⟨_, _, rfl, _, _, _⟩ := JobD.out hx) | rintro _ ⟨_, rfl, _⟩) | rw [SlR.one (by assumption)] | rw [SlR.leaf (by assumption)] | simp -implicitDefEqProofs (disch := omega) only [wrap_in, u8_small, Int.tmod_eq_emod_of_nonneg, Int.tdiv_eq_ediv_of_nonneg] | refine aK_sub (by assumption) ?_ | refine aix_strn (fun _ _ => ?_) | ((with_reducible refine adraw_seq ?_ ?_ ?_); (· kernel_rfl); (· decide +kernel)) | refine ACallK.eq (hp _ _ (by assumption)) ?_ | (rw [hm1, shr1, hm2]) | (refine retK_two ?_) | simp -implicitDefEqProofs only [go_sem, slCells_own, aapp_own] | refine And.intro (by omega) (And.intro (by omega) ?_) | refine acond_split (fun _ => ?_) (fun _ => ?_) | refine agrd_bt (fun _ => ?_) (fun _ => ?_) | refine agrd_bf (fun _ => ?_) (fun _ => ?_) | refine retK_eq ?_ | refine retK_back (by assumption) ?_ | refine retK_eq2 ?_ | refine retK_back2 (by assumption) ?_)
  · exact back (m + 1, j) ⟨by simp only; omega, by simp only; omega, At.lo (i := 0) (j := 0) hs (by omega) (kcmp_lt.1 (by assumption)), hQ⟩ (by simp only; omega)
  · exact back (i, m) ⟨by simp only; omega, by simp only; omega, hP, At.hi (i := 0) (j := 0) hs (by omega) (fun h => absurd (kcmp_lt.2 h) (by assumption))⟩ (by simp only; omega)
  · have hij2 : i = j := by omega
    subst hij2
    have hA : At RowD.key l key i := ⟨by omega, hP, hQ⟩
    refine ⟨i, hA, ?_⟩
    rw [hA.has hs]
    congr 5
    rw [Bool.eq_iff_iff, decide_eq_true_eq, decide_eq_true_eq, kcmp_eq]
    exact ⟨fun h => ⟨by omega, h⟩, fun ⟨_, h⟩ => h⟩
  · have hij2 : i = j := by omega
    subst hij2
    have hA : At RowD.key l key i := ⟨by omega, hP, hQ⟩
    refine ⟨i, hA, ?_⟩
    rw [hA.has hs, decide_eq_false (by rintro ⟨h, _⟩; omega)]
end Go.Proofs.YtipfnhfcoolhaaaGreat.Aw
