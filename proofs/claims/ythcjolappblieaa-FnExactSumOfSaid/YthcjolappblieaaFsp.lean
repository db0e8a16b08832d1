/- Samples, sorted and summed: both packages. -/
import Derived.Test.YthcjolappblieaaFso
import Derived.Test.YthcjolappblieaaFl1
import Derived.Test.YthcjolappblieaaFr
namespace Go.Proofs.Ythcjolappblieaa.Aw
open Go Go.RowKit
set_option linter.unusedVariables false
set_option linter.unusedSimpArgs false
set_option maxRecDepth 100000
set_option maxHeartbeats 2000000
attribute [-go_sem] wr_eq
def leI (x y : Int) : Bool := decide (x ≤ y)
def sortI (xs : List Int) : List Int := xs.mergeSort fun x y => decide (x ≤ y)
theorem sortI_perm (xs : List Int) : (sortI xs).Perm xs := List.mergeSort_perm xs _
theorem sortI_length (xs : List Int) : (sortI xs).length = xs.length := List.length_mergeSort xs
theorem sortI_of {l xs : List Int} (h : l.Perm xs) (hs : l.Pairwise (· ≤ ·)) : l = sortI xs := by
  have tr : ∀ a b c : Int, decide (a ≤ b) = true → decide (b ≤ c) = true → decide (a ≤ c) = true := fun a b c h1 h2 => by simp only [decide_eq_true_eq] at *; omega
  have to : ∀ a b : Int, (decide (a ≤ b) || decide (b ≤ a)) = true := fun a b => by simp only [Bool.or_eq_true, decide_eq_true_eq]; omega
  refine List.Perm.eq_of_pairwise (le := fun a b : Int => a ≤ b) (fun a b _ _ h1 h2 => by omega) hs ?_ (h.trans (sortI_perm xs).symm)
  exact (List.pairwise_mergeSort tr to xs).imp (by simp)
theorem getD_get {l : List Int} {j : Nat} (h : j < l.length) : l[j] = l.getD j 0 := by rw [List.getD_eq_getElem?_getD, List.getElem?_eq_getElem h]; rfl
/-- One number, put into its place among those ahead of it. -/
theorem ins_step {L M : List Int} {i k : Nat} {x : Int} (hi : i < L.length) (hk : k ≤ i) (hl : M.length = L.length) (hx : x = L.getD i 0) (h1 : ∀ j, j < k → M.getD j 0 = L.getD j 0) (h2 : ∀ j, k < j → j ≤ i → M.getD j 0 = L.getD (j - 1) 0) (h3 : ∀ j, i < j → M.getD j 0 = L.getD j 0)
    (h4 : ∀ j, k ≤ j → j < i → x < L.getD j 0) (h5 : k = 0 ∨ L.getD (k - 1) 0 ≤ x) (hs : (L.take i).Pairwise (· ≤ ·)) : (M.set k x).Perm L ∧ ((M.set k x).take (i + 1)).Pairwise (· ≤ ·) := by
  have e1 : M.set k x = L.take k ++ (x :: ((L.drop k).take (i - k) ++ L.drop (i + 1))) := by
    apply List.ext_getElem
    · simp; omega
    intro j hj hj'
    have hjl : j < L.length := by simpa [hl] using hj
    rw [List.getElem_set]
    split
    · rename_i h; subst h
      rw [List.getElem_append_right (by simp; omega)]
      simp [Nat.min_eq_left (show k ≤ L.length by omega)]
    · rename_i h
      rw [getD_get (by omega)]
      by_cases c1 : j < k
      · rw [h1 j c1, List.getElem_append_left (by simp; omega), List.getElem_take, getD_get hjl]
      · rw [List.getElem_append_right (by simp; omega)]
        have hmin : min k L.length = k := by omega
        simp only [List.length_take, hmin]
        rw [List.getElem_cons, dif_neg (by omega)]
        by_cases c2 : j ≤ i
        · rw [h2 j (by omega) c2, List.getElem_append_left (by simp; omega), List.getElem_take, List.getElem_drop, getD_get (by omega)]
          congr 1; omega
        · rw [h3 j (by omega), List.getElem_append_right (by simp; omega), List.getElem_drop, getD_get (by simp; omega)]
          congr 1; simp; omega
  have e2 : L = L.take k ++ ((L.drop k).take (i - k) ++ (x :: L.drop (i + 1))) := by
    have hx2 : x = L[i] := by rw [hx, getD_get hi]
    have hd : L.drop i = x :: L.drop (i + 1) := by rw [hx2]; exact List.drop_eq_getElem_cons hi
    rw [← hd]
    conv => lhs; rw [← List.take_append_drop k L]
    congr 1
    conv => lhs; rw [← List.take_append_drop (i - k) (L.drop k)]
    rw [List.drop_drop, show k + (i - k) = i by omega]
  have e3 : L.take i = L.take k ++ (L.drop k).take (i - k) := by
    conv => lhs; rw [← List.take_append_drop k (L.take i)]
    rw [List.take_take, List.drop_take, Nat.min_eq_left hk]
  have hA : ∀ a ∈ L.take k, a ≤ x := fun a ha => by
    rcases h5 with h5 | h5
    · subst h5; simp at ha
    · obtain ⟨j, hj, rfl⟩ := List.mem_iff_getElem.1 ha
      simp only [List.length_take] at hj
      rw [List.getElem_take]
      by_cases c : j = k - 1
      · subst c; rw [getD_get (by omega)]; exact h5
      · have hp := List.pairwise_iff_getElem.1 hs j (k - 1) (by simp; omega) (by simp; omega) (by omega)
        rw [List.getElem_take, List.getElem_take, getD_get (show k - 1 < L.length by omega)] at hp
        omega
  have hB : ∀ b ∈ (L.drop k).take (i - k), x < b := fun b hb => by
    obtain ⟨j, hj, rfl⟩ := List.mem_iff_getElem.1 hb
    simp only [List.length_take, List.length_drop] at hj
    rw [List.getElem_take, List.getElem_drop, getD_get (by omega)]
    exact h4 _ (by omega) (by omega)
  constructor
  · rw [e1]
    conv => rhs; rw [e2]
    exact (List.perm_middle.symm).append_left _
  · have e4 : (M.set k x).take (i + 1) = L.take k ++ (x :: (L.drop k).take (i - k)) := by
      rw [e1, show L.take k ++ (x :: ((L.drop k).take (i - k) ++ L.drop (i + 1))) = (L.take k ++ (x :: (L.drop k).take (i - k))) ++ L.drop (i + 1) by simp]
      exact List.take_left' (by simp; omega)
    rw [e4]
    rw [e3] at hs
    obtain ⟨p1, p2, p3⟩ := List.pairwise_append.1 hs
    refine List.pairwise_append.2 ⟨p1, List.pairwise_cons.2 ⟨fun b hb => Int.le_of_lt (hB b hb), p2⟩, fun a ha b hb => ?_⟩
    rcases List.mem_cons.1 hb with rfl | hb
    · exact hA a ha
    · exact p3 a ha b hb
theorem sgd_ne {a : List Int} {i j : Nat} {n : Int} (h : i ≠ j) : (a.set i n).getD j 0 = a.getD j 0 := by
  rw [List.getD_eq_getElem?_getD, List.getElem?_set_ne h, ← List.getD_eq_getElem?_getD]
theorem sgd_eq {a : List Int} {i : Nat} {n : Int} (h : i < a.length) : (a.set i n).getD i 0 = n := by
  rw [List.getD_eq_getElem?_getD, List.getElem?_set_self h]; rfl
theorem l16Sort_ok (W0 : World) (v : AV) (xs : List Int) (S : List Nat) (H : AH) (ho : OwnS H S v xs) : ACalls Try.prog W0 140 [v] H (fun u H' => u = v ∧ Chg S H H' ∧ OwnS H' S v (sortI xs)) := by
  refine acallw Try.func140 rfl (by kernel_rfl) (by kernel_rfl) fun hc hw => ?_
  have hbg := (ho.slr (W0 := W0)).2.1; simp only [big] at hbg
  repeat' (first | simp -implicitDefEqProofs only [go_sem] | refine acond_decF (by omega) ?_ | refine acond_decT (by omega) ?_ | refine acond_ndecF (by omega) ?_ | refine acond_ndecT (by omega) ?_ | refine acond_dec (fun _ => ?_) (fun _ => ?_) | refine acond_ndec (fun _ => ?_) (fun _ => ?_) | refine agrd_dec (fun _ => ?_) (fun _ => ?_) | refine agrd_decf (fun _ => ?_) (fun _ => ?_) | refine agrd_ndec (fun _ => ?_) (fun _ => ?_) | refine agrd_ndecf (fun _ => ?_) (fun _ => ?_) | refine abi_len_sl' (by assumption) ?_ | refine aixs_sln (by assumption) ?_ | refine afa_sl (by assumption) ?_ | (refine aK_sl (by assumption) (by omega) ?_; first | rintro _ ⟨rfl, _⟩ | (intro _ hx; obtain ⟨_, rfl, _, _⟩ := EvD.out hx) | (intro _ hx; obtain ⟨_, _, rfl, _, _, _⟩ := JobD.out hx) | rintro _ ⟨_, rfl, _⟩) | rw [SlR.one (by assumption)] | rw [SlR.leaf (by assumption)] | simp -implicitDefEqProofs (disch := omega) only [wrap_in, u8_small, Int.tmod_eq_emod_of_nonneg, Int.tdiv_eq_ediv_of_nonneg] | refine aK_sub (by assumption) ?_ | refine aix_strn (fun _ _ => ?_) | ((with_reducible refine adraw_seq ?_ ?_ ?_); (· kernel_rfl); (· decide +kernel)) | simp -implicitDefEqProofs only [go_sem, slCells_own, aapp_own] | (with_reducible refine And.intro (by omega) ?_) | refine And.intro (by omega) (And.intro (by omega) ?_) | refine acond_split (fun _ => ?_) (fun _ => ?_) | refine agrd_bt (fun _ => ?_) (fun _ => ?_) | refine agrd_bf (fun _ => ?_) (fun _ => ?_) | refine retK_eq ?_ | refine retK_back (by assumption) ?_ | refine retK_eq2 ?_ | refine retK_back2 (by assumption) ?_ | (with_reducible refine And.intro ?_ ?_))
  refine acode_while (fun (p : Nat × List Int) => [(0, v), (3, .v (.int .i64 p.1))]) (fun p H' => H'.wf ∧ Chg S H H' ∧ OwnS H' S v p.2 ∧ p.2.Perm xs ∧ (p.2.take p.1).Pairwise (· ≤ ·) ∧ 1 ≤ p.1) (fun p => xs.length - p.1) (1, xs) ⟨hw, Chg.refl _ _, ho, List.Perm.refl _, ?_, Nat.le_refl _⟩ ?_
  · cases xs <;> simp
  rintro ⟨i, L⟩ H' ⟨hw', hg, hoL, hP, hS, hi1⟩
  simp only at hoL hP hS hi1 ⊢
  have hLl := hP.length_eq
  have hL := hoL.slr (W0 := W0)
  rcases Nat.lt_or_ge i L.length with hlt | hge
  · repeat' (first | simp -implicitDefEqProofs only [go_sem] | (simp -implicitDefEqProofs (disch := omega) only [wrap_in]) | (refine ixI hL ?_) | (refine rdI hL ?_) | refine acond_decF (by omega) ?_ | refine acond_decT (by omega) ?_ | refine acond_ndecF (by omega) ?_ | refine acond_ndecT (by omega) ?_ | refine acond_dec (fun _ => ?_) (fun _ => ?_) | refine acond_ndec (fun _ => ?_) (fun _ => ?_) | refine agrd_dec (fun _ => ?_) (fun _ => ?_) | refine agrd_decf (fun _ => ?_) (fun _ => ?_) | refine agrd_ndec (fun _ => ?_) (fun _ => ?_) | refine agrd_ndecf (fun _ => ?_) (fun _ => ?_) | refine abi_len_sl' (by assumption) ?_ | refine aixs_sln (by assumption) ?_ | refine afa_sl (by assumption) ?_ | (refine aK_sl (by assumption) (by omega) ?_; first | rintro _ ⟨rfl, _⟩ | (intro _ hx; obtain ⟨_, rfl, _, _⟩ := EvD.out hx) | (intro _ hx; obtain ⟨_, _, rfl, _, _, _⟩ := JobD.out hx) | rintro _ ⟨_, rfl, _⟩) | rw [SlR.one (by assumption)] | rw [SlR.leaf (by assumption)] | simp -implicitDefEqProofs (disch := omega) only [wrap_in, u8_small, Int.tmod_eq_emod_of_nonneg, Int.tdiv_eq_ediv_of_nonneg] | refine aK_sub (by assumption) ?_ | refine aix_strn (fun _ _ => ?_) | ((with_reducible refine adraw_seq ?_ ?_ ?_); (· kernel_rfl); (· decide +kernel)) | simp -implicitDefEqProofs only [go_sem, slCells_own, aapp_own] | (with_reducible refine And.intro (by omega) ?_) | refine And.intro (by omega) (And.intro (by omega) ?_) | refine acond_split (fun _ => ?_) (fun _ => ?_) | refine agrd_bt (fun _ => ?_) (fun _ => ?_) | refine agrd_bf (fun _ => ?_) (fun _ => ?_) | refine retK_eq ?_ | refine retK_back (by assumption) ?_ | refine retK_eq2 ?_ | refine retK_back2 (by assumption) ?_ | (with_reducible refine And.intro ?_ ?_))
    refine acode_while (fun (p : Nat × List Int) => [(0, v), (3, .v (.int .i64 i)), (4, .v (.int .i64 (L.getD i 0))), (5, .v (.int .i64 p.1))]) (fun p H' => H'.wf ∧ Chg S H H' ∧ OwnS H' S v p.2 ∧ p.2.length = L.length ∧ p.1 ≤ i ∧ (∀ j, j < p.1 → p.2.getD j 0 = L.getD j 0) ∧ (∀ j, p.1 < j → j ≤ i → p.2.getD j 0 = L.getD (j - 1) 0) ∧ (∀ j, i < j → p.2.getD j 0 = L.getD j 0) ∧ ∀ j, p.1 ≤ j → j < i → L.getD i 0 < L.getD j 0) (fun p => p.1) (i, L) ⟨hw', hg, hoL, rfl, Nat.le_refl _, fun _ _ => rfl, fun j h1 h2 => by simp only at h1; omega, fun _ _ => rfl, fun j h1 h2 => by simp only at h1; omega⟩ ?_
    rintro ⟨k, M⟩ H2 ⟨hw2, hg2, hoM, hMl, hk, m1, m2, m3, m4⟩
    simp only at hoM hMl hk m1 m2 m3 m4 ⊢
    have hM := hoM.slr (W0 := W0)
    have hI := getD_I hM
    have hIL := getD_I hL i
    repeat' (first | simp -implicitDefEqProofs only [go_sem] | (simp -implicitDefEqProofs (disch := omega) only [wrap_in]) | (refine ixI hM ?_) | (refine rdI hM ?_) | (refine stI hoM hw2 ?_ (hI _); intro H3 w3 g3 o3) | (refine stI hoM hw2 ?_ hIL; intro H3 w3 g3 o3) | refine acond_decF (by omega) ?_ | refine acond_decT (by omega) ?_ | refine acond_ndecF (by omega) ?_ | refine acond_ndecT (by omega) ?_ | refine acond_dec (fun _ => ?_) (fun _ => ?_) | refine acond_ndec (fun _ => ?_) (fun _ => ?_) | refine agrd_dec (fun _ => ?_) (fun _ => ?_) | refine agrd_decf (fun _ => ?_) (fun _ => ?_) | refine agrd_ndec (fun _ => ?_) (fun _ => ?_) | refine agrd_ndecf (fun _ => ?_) (fun _ => ?_) | refine abi_len_sl' (by assumption) ?_ | refine aixs_sln (by assumption) ?_ | refine afa_sl (by assumption) ?_ | (refine aK_sl (by assumption) (by omega) ?_; first | rintro _ ⟨rfl, _⟩ | (intro _ hx; obtain ⟨_, rfl, _, _⟩ := EvD.out hx) | (intro _ hx; obtain ⟨_, _, rfl, _, _, _⟩ := JobD.out hx) | rintro _ ⟨_, rfl, _⟩) | rw [SlR.one (by assumption)] | rw [SlR.leaf (by assumption)] | simp -implicitDefEqProofs (disch := omega) only [wrap_in, u8_small, Int.tmod_eq_emod_of_nonneg, Int.tdiv_eq_ediv_of_nonneg] | refine aK_sub (by assumption) ?_ | refine aix_strn (fun _ _ => ?_) | ((with_reducible refine adraw_seq ?_ ?_ ?_); (· kernel_rfl); (· decide +kernel)) | simp -implicitDefEqProofs only [go_sem, slCells_own, aapp_own] | (with_reducible refine And.intro (by omega) ?_) | refine And.intro (by omega) (And.intro (by omega) ?_) | refine acond_split (fun _ => ?_) (fun _ => ?_) | refine agrd_bt (fun _ => ?_) (fun _ => ?_) | refine agrd_bf (fun _ => ?_) (fun _ => ?_) | refine retK_eq ?_ | refine retK_back (by assumption) ?_ | refine retK_eq2 ?_ | refine retK_back2 (by assumption) ?_ | (with_reducible refine And.intro ?_ ?_))
    · have hgt : L.getD i 0 < M.getD (k - 1) 0 := by rename_i h; rwa [show ((k : Int) - 1).toNat = k - 1 by omega] at h
      have hk0 : 0 < k := by omega
      have hm := m1 (k - 1) (by omega)
      rw [show ((k : Int) - 1).toNat = k - 1 by omega] at o3
      try rw [Int.toNat_natCast] at o3
      refine back (k - 1, M.set k (M.getD (k - 1) 0)) ⟨w3, hg2.trans g3, o3, by simp [hMl], by simp only; omega, fun j hj => ?_, fun j hj1 hj2 => ?_, fun j hj => ?_, fun j hj1 hj2 => ?_⟩ (by simp only; omega) (by simp only [frOk, go_sem]; exact iv (by omega))
      · simp only at hj ⊢; rw [sgd_ne (by omega), m1 j (by omega)]
      · simp only at hj1 ⊢
        by_cases hjk : j = k
        · subst hjk; rw [sgd_eq (by omega), hm]
        · rw [sgd_ne (by omega), m2 j (by omega) hj2]
      · simp only; rw [sgd_ne (by omega), m3 j hj]
      · simp only at hj1
        by_cases hjk : j = k - 1
        · subst hjk; rw [← hm]; exact hgt
        · exact m4 j (by omega) hj2
    all_goals
      have h5 : k = 0 ∨ L.getD (k - 1) 0 ≤ L.getD i 0 := by
        rcases Nat.eq_zero_or_pos k with h | h
        · exact .inl h
        · refine .inr ?_
          rw [← m1 (k - 1) (by omega)]
          first
            | omega
            | (rename_i hn; rw [show ((k : Int) - 1).toNat = k - 1 by omega] at hn; omega)
      obtain ⟨r1, r2⟩ := ins_step hlt hk hMl rfl m1 m2 m3 m4 h5 hS
      try rw [Int.toNat_natCast] at o3
      exact back (i + 1, M.set k (L.getD i 0)) ⟨w3, hg2.trans g3, o3, r1.trans hP, r2, by simp only; omega⟩ (by simp only; omega) (by simp only [frOk, go_sem]; exact iv (by omega))
  · repeat' (first | simp -implicitDefEqProofs only [go_sem] | refine acond_decF (by omega) ?_ | refine acond_decT (by omega) ?_ | refine acond_ndecF (by omega) ?_ | refine acond_ndecT (by omega) ?_ | refine acond_dec (fun _ => ?_) (fun _ => ?_) | refine acond_ndec (fun _ => ?_) (fun _ => ?_) | refine agrd_dec (fun _ => ?_) (fun _ => ?_) | refine agrd_decf (fun _ => ?_) (fun _ => ?_) | refine agrd_ndec (fun _ => ?_) (fun _ => ?_) | refine agrd_ndecf (fun _ => ?_) (fun _ => ?_) | refine abi_len_sl' (by assumption) ?_ | refine aixs_sln (by assumption) ?_ | refine afa_sl (by assumption) ?_ | (refine aK_sl (by assumption) (by omega) ?_; first | rintro _ ⟨rfl, _⟩ | (intro _ hx; obtain ⟨_, rfl, _, _⟩ := EvD.out hx) | (intro _ hx; obtain ⟨_, _, rfl, _, _, _⟩ := JobD.out hx) | rintro _ ⟨_, rfl, _⟩) | rw [SlR.one (by assumption)] | rw [SlR.leaf (by assumption)] | simp -implicitDefEqProofs (disch := omega) only [wrap_in, u8_small, Int.tmod_eq_emod_of_nonneg, Int.tdiv_eq_ediv_of_nonneg] | refine aK_sub (by assumption) ?_ | refine aix_strn (fun _ _ => ?_) | ((with_reducible refine adraw_seq ?_ ?_ ?_); (· kernel_rfl); (· decide +kernel)) | simp -implicitDefEqProofs only [go_sem, slCells_own, aapp_own] | (with_reducible refine And.intro (by omega) ?_) | refine And.intro (by omega) (And.intro (by omega) ?_) | refine acond_split (fun _ => ?_) (fun _ => ?_) | refine agrd_bt (fun _ => ?_) (fun _ => ?_) | refine agrd_bf (fun _ => ?_) (fun _ => ?_) | refine retK_eq ?_ | refine retK_back (by assumption) ?_ | refine retK_eq2 ?_ | refine retK_back2 (by assumption) ?_ | (with_reducible refine And.intro ?_ ?_))
    rw [List.take_of_length_le hge] at hS
    exact retK_one ⟨rfl, hg, by rw [← sortI_of hP hS]; exact hoL⟩
end Go.Proofs.Ythcjolappblieaa.Aw
