/- A buffer cleared, and a flush at once: both packages. -/
import Derived.Test.YtipfnhfcoolhaaaFnr
import Derived.Test.YtipfnhfcoolhaaaFrk
namespace Go.Proofs.Ytipfnhfcoolhaaa.Aw
open Go Go.RowKit
set_option linter.unusedVariables false
set_option linter.unusedSimpArgs false
set_option maxRecDepth 100000
set_option maxHeartbeats 2000000
attribute [-go_sem] wr_eq
section
variable {P : Program} {W0 : World}
theorem encL_rep (m : Nat) : encL (List.replicate m (0 : Int)) = zerosA [.int .i64 0] m := by
  induction m with
  | zero => rfl
  | succ m ih => rw [List.replicate_succ, encL_cons, ih, zerosA_succ]; rfl
/-- A part of a list of numbers, cleared. -/
theorem clrI {K : Kt} {H : AH} {S : List Nat} {v : AV} {xs : List Int} {l h : Nat} {t : TypeId} {b : Nat} (ho : OwnS H S v xs) (hw : H.wf) (k : ∀ H', H'.wf → Chg S H H' → OwnS H' S v (xs.take l ++ (List.replicate (h - l) 0 ++ xs.drop h)) → K.k .dead H')
    (hlh : l < h) (hh : h ≤ xs.length) (ht : (elt P t).bind (tyi P) = some ⟨false, 1, b, [.int .i64 0]⟩) : abi (K := K) P W0 .clear [t] [slA 1 v l h] H := by
  rcases ho.flat with ⟨-, rfl, -⟩ | ⟨b', o, cs, rfl, hB, ho', hbig, rfl, hcs, hok⟩
  · simp at hh; omega
  simp only [Ob.n, Nat.mul_one] at hB ho' hcs
  simp only [slA, Nat.mul_one, abi, abuiltin, ht, slBlk, hB]
  refine ⟨trivial, rfl, rfl, by omega, ?_⟩
  have e1 : encL xs = encL (xs.take l) ++ (encL ((xs.drop l).take (h - l)) ++ encL (xs.drop h)) := by
    rw [← encL_append, ← encL_append]
    congr 1
    conv => lhs; rw [← List.take_append_drop l xs]
    congr 1
    conv => lhs; rw [← List.take_append_drop (h - l) (xs.drop l)]
    rw [List.drop_drop, show l + (h - l) = h by omega]
  have hl1 : ∀ ys : List Int, (encL ys).length = ys.length := fun ys => by
    induction ys with
    | nil => rfl
    | cons y ys ih => rw [encL_cons, List.length_append, ih]; simp [Flat.enc]; omega
  have e2 : cs = cs.take o ++ (encL xs ++ cs.drop (o + xs.length)) := by
    conv => lhs; rw [← List.take_append_drop o cs]
    congr 1
    conv => lhs; rw [← List.take_append_drop xs.length (cs.drop o)]
    rw [hcs, List.drop_drop]
  have hlo : (cs.take o).length = o := by simp; omega
  have e3 : wr cs (o + l) (zerosA [.int .i64 0] (h - l)) = cs.take o ++ (encL (xs.take l ++ (List.replicate (h - l) 0 ++ xs.drop h)) ++ cs.drop (o + xs.length)) := by
    conv => lhs; rw [e2, e1]
    rw [encL_append, encL_append, encL_rep]
    have hz : (zerosA [.int .i64 0] (h - l)).length = h - l := by rw [← encL_rep, hl1]; simp
    have ha : (cs.take o ++ encL (xs.take l)).length = o + l := by rw [List.length_append, hlo, hl1]; simp; omega
    have hb : (encL ((xs.drop l).take (h - l))).length = h - l := by rw [hl1]; simp; omega
    rw [show cs.take o ++ (encL (xs.take l) ++ (encL ((xs.drop l).take (h - l)) ++ encL (xs.drop h)) ++ cs.drop (o + xs.length)) = (cs.take o ++ encL (xs.take l)) ++ (encL ((xs.drop l).take (h - l)) ++ (encL (xs.drop h) ++ cs.drop (o + xs.length))) by simp]
    rw [wr, List.take_left' ha, show o + l + (zerosA [.int .i64 0] (h - l)).length = (cs.take o ++ encL (xs.take l)).length + (h - l) by rw [ha, hz], List.drop_length_add_append, List.drop_left' hb]
    simp
  rw [e3]
  have hlen : (xs.take l ++ (List.replicate (h - l) (0 : Int) ++ xs.drop h)).length = xs.length := by simp; omega
  refine k _ (hw.set (hw.lt hB) _) ((Chg.refl _ _).set (by simp) _) ?_
  refine OwnS.ofFlat (blk_set_self _ _ _) ?_ ?_ (by omega) ?_ hlen.symm
  · rw [List.drop_left' hlo, hlen]; simp only [Ob.n, Nat.mul_one]
    rw [List.take_left' (by rw [hl1, hlen])]
  · simp only [Ob.n, Nat.mul_one, List.length_append, hl1]; simp; omega
  · intro y hy
    rcases List.mem_append.1 hy with hy | hy
    · exact hok y (List.mem_of_mem_take hy)
    · rcases List.mem_append.1 hy with hy | hy
      · obtain rfl := (List.mem_replicate.1 hy).2; exact ⟨by decide, by decide⟩
      · exact hok y (List.mem_of_mem_drop hy)
end
theorem clearTo_eq (a : List Int) (b : Int) : ∀ i, 7 + b.toNat * 32 + i ≤ a.length → clearTo a b i = a.take (7 + b.toNat * 32) ++ (List.replicate i 0 ++ a.drop (7 + b.toNat * 32 + i))
  | 0, _ => by simp [clearTo]
  | i + 1, h => by
    rw [clearTo, clearTo_eq a b i (by omega)]
    generalize hp : 7 + b.toNat * 32 = p at *
    have h1 : (a.take p).length = p := by simp; omega
    rw [List.set_append_right _ _ (by omega), h1, show p + i - p = i by omega]
    congr 1
    rw [List.set_append_right _ _ (by simp), List.length_replicate, Nat.sub_self, List.drop_eq_getElem_cons (by omega), List.set_cons_zero, List.replicate_succ']
    simp [Nat.add_assoc]
theorem clearBuf_ok {a : List Int} {b : Int} (h : cellsOk a = true) : cellsOk (clearBuf a b) = true := by
  unfold clearBuf
  split
  · have : ∀ i, cellsOk (clearTo a b i) = true := fun i => by
      induction i with
      | zero => exact h
      | succ i ih => exact cellsOk_set ih _ (by unfold wordP; omega)
    exact this 32
  · exact h
theorem clearBuf_zero {a : List Int} {b : Int} : (clearBuf a b).getD 0 0 = a.getD 0 0 := by
  unfold clearBuf
  split
  · have : ∀ i, (clearTo a b i).getD 0 0 = a.getD 0 0 := fun i => by
      induction i with
      | zero => rfl
      | succ i ih => rw [clearTo, set_getD_ne (by omega), ih]
    exact this 32
  · rfl
theorem clearBuf_length (a : List Int) (b : Int) : (clearBuf a b).length = a.length := by
  unfold clearBuf; split
  · exact clearTo_length a b 32
  · rfl
theorem ClearBuf_impl (W0 : World) (v : AV) (a : List Int) (b : Int) (H : AH) (ha : SlR W0 H v a) (hl : a.length ≤ 1000000000000) : ACalls Try.prog W0 43 [v, .v (.int .i64 b)] H (fun u H' => NewS H H' u (clearBuf a b)) := by
  refine acallw Try.func43 rfl (by kernel_rfl) (by kernel_rfl) fun hc hw => ?_
  repeat' (first | simp -implicitDefEqProofs only [go_sem] | refine acond_decF (by omega) ?_ | refine acond_decT (by omega) ?_ | refine acond_ndecF (by omega) ?_ | refine acond_ndecT (by omega) ?_ | refine acond_dec (fun _ => ?_) (fun _ => ?_) | refine acond_ndec (fun _ => ?_) (fun _ => ?_) | refine agrd_dec (fun _ => ?_) (fun _ => ?_) | refine agrd_decf (fun _ => ?_) (fun _ => ?_) | refine agrd_ndec (fun _ => ?_) (fun _ => ?_) | refine agrd_ndecf (fun _ => ?_) (fun _ => ?_) | refine abi_len_sl' (by assumption) ?_ | refine aixs_sln (by assumption) ?_ | refine afa_sl (by assumption) ?_ | (refine aK_sl (by assumption) (by omega) ?_; first | rintro _ ⟨rfl, _⟩ | (intro _ hx; obtain ⟨_, rfl, _, _⟩ := EvD.out hx) | (intro _ hx; obtain ⟨_, _, rfl, _, _, _⟩ := JobD.out hx) | rintro _ ⟨_, rfl, _⟩) | rw [SlR.one (by assumption)] | rw [SlR.leaf (by assumption)] | simp -implicitDefEqProofs (disch := omega) only [wrap_in, u8_small, Int.tmod_eq_emod_of_nonneg, Int.tdiv_eq_ediv_of_nonneg] | refine aK_sub (by assumption) ?_ | refine aix_strn (fun _ _ => ?_) | ((with_reducible refine adraw_seq ?_ ?_ ?_); (· kernel_rfl); (· decide +kernel)) | simp -implicitDefEqProofs only [go_sem, slCells_own, aapp_own] | (with_reducible refine And.intro (by omega) ?_) | refine And.intro (by omega) (And.intro (by omega) ?_) | refine acond_split (fun _ => ?_) (fun _ => ?_) | refine agrd_bt (fun _ => ?_) (fun _ => ?_) | refine agrd_bf (fun _ => ?_) (fun _ => ?_) | refine retK_eq ?_ | refine retK_back (by assumption) ?_ | refine retK_eq2 ?_ | refine retK_back2 (by assumption) ?_ | (with_reducible refine And.intro ?_ ?_))
  refine ACallK.of (copied_ok _ v a _ ha hl).cl ?_
  rintro u H1 ⟨⟨s1, S1, o1, f1⟩, c1⟩
  have hu := o1.slr (W0 := W0)
  by_cases hp : cellsOk a = true ∧ (0 ≤ b ∧ b ≤ 1)
  · obtain ⟨h1, h2⟩ := hp
    have hsb := slotBase_of (s := 0) h2 (by omega)
    have hlen := cellsOk_len h1
    repeat' (first | simp -implicitDefEqProofs only [go_sem] | (refine ACallK.eq (SlotBase_impl _ _ _ _) ?_; rw [hsb]) | (refine ACallK.eq (CellsOk_impl _ _ a _ (SlR.sub' ha)) ?_; rw [h1]) | (refine asl_sl hu ?_) | (refine aslE_sl (l := 7 + b * 32 + 0 * 8) (h := 7 + b * 32 + 0 * 8 + 32) hu (fun hsl => ?_)) | (simp -implicitDefEqProofs (disch := omega) only [wrap_in]) | (refine clrI o1 c1.1 ?_ (by omega) (by omega) (by simp only [go_sem]; rfl); intro H2 w2 g2 o2) | refine acond_decF (by omega) ?_ | refine acond_decT (by omega) ?_ | refine acond_ndecF (by omega) ?_ | refine acond_ndecT (by omega) ?_ | refine acond_dec (fun _ => ?_) (fun _ => ?_) | refine acond_ndec (fun _ => ?_) (fun _ => ?_) | refine agrd_dec (fun _ => ?_) (fun _ => ?_) | refine agrd_decf (fun _ => ?_) (fun _ => ?_) | refine agrd_ndec (fun _ => ?_) (fun _ => ?_) | refine agrd_ndecf (fun _ => ?_) (fun _ => ?_) | refine abi_len_sl' (by assumption) ?_ | refine aixs_sln (by assumption) ?_ | refine afa_sl (by assumption) ?_ | (refine aK_sl (by assumption) (by omega) ?_; first | rintro _ ⟨rfl, _⟩ | (intro _ hx; obtain ⟨_, rfl, _, _⟩ := EvD.out hx) | (intro _ hx; obtain ⟨_, _, rfl, _, _, _⟩ := JobD.out hx) | rintro _ ⟨_, rfl, _⟩) | rw [SlR.one (by assumption)] | rw [SlR.leaf (by assumption)] | simp -implicitDefEqProofs (disch := omega) only [wrap_in, u8_small, Int.tmod_eq_emod_of_nonneg, Int.tdiv_eq_ediv_of_nonneg] | refine aK_sub (by assumption) ?_ | refine aix_strn (fun _ _ => ?_) | ((with_reducible refine adraw_seq ?_ ?_ ?_); (· kernel_rfl); (· decide +kernel)) | simp -implicitDefEqProofs only [go_sem, slCells_own, aapp_own] | (with_reducible refine And.intro (by omega) ?_) | refine And.intro (by omega) (And.intro (by omega) ?_) | refine acond_split (fun _ => ?_) (fun _ => ?_) | refine agrd_bt (fun _ => ?_) (fun _ => ?_) | refine agrd_bf (fun _ => ?_) (fun _ => ?_) | refine retK_eq ?_ | refine retK_back (by assumption) ?_ | refine retK_eq2 ?_ | refine retK_back2 (by assumption) ?_ | (with_reducible refine And.intro ?_ ?_))
    refine retK_one (Chg.newS hw s1 f1 g2 ?_)
    rw [clearBuf, if_pos ⟨h1, h2⟩, clearTo_eq a b 32 (by omega)]
    rw [show (7 + b * 32 + 0).toNat = 7 + b.toNat * 32 by omega, show (7 + b * 32 + 0 + 32).toNat = 7 + b.toNat * 32 + 32 by omega, Nat.add_sub_cancel_left] at o2
    exact o2
  · have hb := slotBase_bd (b := b) (s := 0)
    rw [clearBuf, if_neg hp]
    repeat' (first | simp -implicitDefEqProofs only [go_sem] | (refine ACallK.eq (SlotBase_impl _ _ _ _) ?_) | (refine ACallK.eq (CellsOk_impl _ _ a _ (SlR.sub' ha)) ?_) | refine acond_decF (by omega) ?_ | refine acond_decT (by omega) ?_ | refine acond_ndecF (by omega) ?_ | refine acond_ndecT (by omega) ?_ | refine acond_dec (fun _ => ?_) (fun _ => ?_) | refine acond_ndec (fun _ => ?_) (fun _ => ?_) | refine agrd_dec (fun _ => ?_) (fun _ => ?_) | refine agrd_decf (fun _ => ?_) (fun _ => ?_) | refine agrd_ndec (fun _ => ?_) (fun _ => ?_) | refine agrd_ndecf (fun _ => ?_) (fun _ => ?_) | refine abi_len_sl' (by assumption) ?_ | refine aixs_sln (by assumption) ?_ | refine afa_sl (by assumption) ?_ | (refine aK_sl (by assumption) (by omega) ?_; first | rintro _ ⟨rfl, _⟩ | (intro _ hx; obtain ⟨_, rfl, _, _⟩ := EvD.out hx) | (intro _ hx; obtain ⟨_, _, rfl, _, _, _⟩ := JobD.out hx) | rintro _ ⟨_, rfl, _⟩) | rw [SlR.one (by assumption)] | rw [SlR.leaf (by assumption)] | simp -implicitDefEqProofs (disch := omega) only [wrap_in, u8_small, Int.tmod_eq_emod_of_nonneg, Int.tdiv_eq_ediv_of_nonneg] | refine aK_sub (by assumption) ?_ | refine aix_strn (fun _ _ => ?_) | ((with_reducible refine adraw_seq ?_ ?_ ?_); (· kernel_rfl); (· decide +kernel)) | simp -implicitDefEqProofs only [go_sem, slCells_own, aapp_own] | (with_reducible refine And.intro (by omega) ?_) | refine And.intro (by omega) (And.intro (by omega) ?_) | refine acond_split (fun _ => ?_) (fun _ => ?_) | refine agrd_bt (fun _ => ?_) (fun _ => ?_) | refine agrd_bf (fun _ => ?_) (fun _ => ?_) | refine retK_eq ?_ | refine retK_back (by assumption) ?_ | refine retK_eq2 ?_ | refine retK_back2 (by assumption) ?_ | (with_reducible refine And.intro ?_ ?_))
    all_goals first
      | exact retK_one ⟨s1, S1, o1, f1⟩
      | (exfalso; exact hp ⟨by simp_all, by omega⟩)
theorem ClearBuf_spec (W0 : World) (v : AV) (a : List Int) (b : Int) (H : AH) (ha : SlR W0 H v a) (hl : a.length ≤ 1000000000000) : ACalls Try.prog W0 238 [v, .v (.int .i64 b)] H (fun u H' => NewS H H' u (clearBuf a b)) := by
  refine acallw Try.func238 rfl (by kernel_rfl) (by kernel_rfl) fun hc hw => ?_
  repeat' (first | simp -implicitDefEqProofs only [go_sem] | refine acond_decF (by omega) ?_ | refine acond_decT (by omega) ?_ | refine acond_ndecF (by omega) ?_ | refine acond_ndecT (by omega) ?_ | refine acond_dec (fun _ => ?_) (fun _ => ?_) | refine acond_ndec (fun _ => ?_) (fun _ => ?_) | refine agrd_dec (fun _ => ?_) (fun _ => ?_) | refine agrd_decf (fun _ => ?_) (fun _ => ?_) | refine agrd_ndec (fun _ => ?_) (fun _ => ?_) | refine agrd_ndecf (fun _ => ?_) (fun _ => ?_) | refine abi_len_sl' (by assumption) ?_ | refine aixs_sln (by assumption) ?_ | refine afa_sl (by assumption) ?_ | (refine aK_sl (by assumption) (by omega) ?_; first | rintro _ ⟨rfl, _⟩ | (intro _ hx; obtain ⟨_, rfl, _, _⟩ := EvD.out hx) | (intro _ hx; obtain ⟨_, _, rfl, _, _, _⟩ := JobD.out hx) | rintro _ ⟨_, rfl, _⟩) | rw [SlR.one (by assumption)] | rw [SlR.leaf (by assumption)] | simp -implicitDefEqProofs (disch := omega) only [wrap_in, u8_small, Int.tmod_eq_emod_of_nonneg, Int.tdiv_eq_ediv_of_nonneg] | refine aK_sub (by assumption) ?_ | refine aix_strn (fun _ _ => ?_) | ((with_reducible refine adraw_seq ?_ ?_ ?_); (· kernel_rfl); (· decide +kernel)) | simp -implicitDefEqProofs only [go_sem, slCells_own, aapp_own] | (with_reducible refine And.intro (by omega) ?_) | refine And.intro (by omega) (And.intro (by omega) ?_) | refine acond_split (fun _ => ?_) (fun _ => ?_) | refine agrd_bt (fun _ => ?_) (fun _ => ?_) | refine agrd_bf (fun _ => ?_) (fun _ => ?_) | refine retK_eq ?_ | refine retK_back (by assumption) ?_ | refine retK_eq2 ?_ | refine retK_back2 (by assumption) ?_ | (with_reducible refine And.intro ?_ ?_))
  refine ACallK.of (l2Copy_ok _ v a _ ha hl).cl ?_
  rintro u H1 ⟨⟨s1, S1, o1, f1⟩, c1⟩
  have hu := o1.slr (W0 := W0)
  by_cases hp : cellsOk a = true ∧ (0 ≤ b ∧ b ≤ 1)
  · rw [clearBuf, if_pos hp]
    obtain ⟨h1, h2⟩ := hp
    have hlen := cellsOk_len h1
    repeat' (first | simp -implicitDefEqProofs only [go_sem] | (refine ACallK.eq (CellsOk_spec _ _ a _ (SlR.sub' ha)) ?_; rw [h1]) | (refine ACallK.eq (InCell_spec _ _ _) ?_; rw [if_pos h2]) | refine acond_decF (by omega) ?_ | refine acond_decT (by omega) ?_ | refine acond_ndecF (by omega) ?_ | refine acond_ndecT (by omega) ?_ | refine acond_dec (fun _ => ?_) (fun _ => ?_) | refine acond_ndec (fun _ => ?_) (fun _ => ?_) | refine agrd_dec (fun _ => ?_) (fun _ => ?_) | refine agrd_decf (fun _ => ?_) (fun _ => ?_) | refine agrd_ndec (fun _ => ?_) (fun _ => ?_) | refine agrd_ndecf (fun _ => ?_) (fun _ => ?_) | refine abi_len_sl' (by assumption) ?_ | refine aixs_sln (by assumption) ?_ | refine afa_sl (by assumption) ?_ | (refine aK_sl (by assumption) (by omega) ?_; first | rintro _ ⟨rfl, _⟩ | (intro _ hx; obtain ⟨_, rfl, _, _⟩ := EvD.out hx) | (intro _ hx; obtain ⟨_, _, rfl, _, _, _⟩ := JobD.out hx) | rintro _ ⟨_, rfl, _⟩) | rw [SlR.one (by assumption)] | rw [SlR.leaf (by assumption)] | simp -implicitDefEqProofs (disch := omega) only [wrap_in, u8_small, Int.tmod_eq_emod_of_nonneg, Int.tdiv_eq_ediv_of_nonneg] | refine aK_sub (by assumption) ?_ | refine aix_strn (fun _ _ => ?_) | ((with_reducible refine adraw_seq ?_ ?_ ?_); (· kernel_rfl); (· decide +kernel)) | simp -implicitDefEqProofs only [go_sem, slCells_own, aapp_own] | (with_reducible refine And.intro (by omega) ?_) | refine And.intro (by omega) (And.intro (by omega) ?_) | refine acond_split (fun _ => ?_) (fun _ => ?_) | refine agrd_bt (fun _ => ?_) (fun _ => ?_) | refine agrd_bf (fun _ => ?_) (fun _ => ?_) | refine retK_eq ?_ | refine retK_back (by assumption) ?_ | refine retK_eq2 ?_ | refine retK_back2 (by assumption) ?_ | (with_reducible refine And.intro ?_ ?_))
    refine acode_while (fun i : Nat => [(1, .v (.int .i64 b)), (5, u), (6, .v (.int .i64 i))]) (fun i H' => H'.wf ∧ i ≤ 32 ∧ Chg S1 H1 H' ∧ OwnS H' S1 u (clearTo a b i)) (fun i => 32 - i) 0 ⟨c1.1, by omega, Chg.refl _ _, o1⟩ ?_
    rintro i H' ⟨hw', hi, hg, ho⟩
    have hu' := ho.slr (W0 := W0)
    have hl' := clearTo_length a b i
    rcases Nat.lt_or_ge i 32 with hlt | hge
    · repeat' (first | simp -implicitDefEqProofs only [go_sem] | (simp -implicitDefEqProofs (disch := omega) only [wrap_in]) | (refine ixI hu' ?_) | (refine stI ho hw' ?_; intro H2 w2 g2 o2) | refine acond_decF (by omega) ?_ | refine acond_decT (by omega) ?_ | refine acond_ndecF (by omega) ?_ | refine acond_ndecT (by omega) ?_ | refine acond_dec (fun _ => ?_) (fun _ => ?_) | refine acond_ndec (fun _ => ?_) (fun _ => ?_) | refine agrd_dec (fun _ => ?_) (fun _ => ?_) | refine agrd_decf (fun _ => ?_) (fun _ => ?_) | refine agrd_ndec (fun _ => ?_) (fun _ => ?_) | refine agrd_ndecf (fun _ => ?_) (fun _ => ?_) | refine abi_len_sl' (by assumption) ?_ | refine aixs_sln (by assumption) ?_ | refine afa_sl (by assumption) ?_ | (refine aK_sl (by assumption) (by omega) ?_; first | rintro _ ⟨rfl, _⟩ | (intro _ hx; obtain ⟨_, rfl, _, _⟩ := EvD.out hx) | (intro _ hx; obtain ⟨_, _, rfl, _, _, _⟩ := JobD.out hx) | rintro _ ⟨_, rfl, _⟩) | rw [SlR.one (by assumption)] | rw [SlR.leaf (by assumption)] | simp -implicitDefEqProofs (disch := omega) only [wrap_in, u8_small, Int.tmod_eq_emod_of_nonneg, Int.tdiv_eq_ediv_of_nonneg] | refine aK_sub (by assumption) ?_ | refine aix_strn (fun _ _ => ?_) | ((with_reducible refine adraw_seq ?_ ?_ ?_); (· kernel_rfl); (· decide +kernel)) | simp -implicitDefEqProofs only [go_sem, slCells_own, aapp_own] | (with_reducible refine And.intro (by omega) ?_) | refine And.intro (by omega) (And.intro (by omega) ?_) | refine acond_split (fun _ => ?_) (fun _ => ?_) | refine agrd_bt (fun _ => ?_) (fun _ => ?_) | refine agrd_bf (fun _ => ?_) (fun _ => ?_) | refine retK_eq ?_ | refine retK_back (by assumption) ?_ | refine retK_eq2 ?_ | refine retK_back2 (by assumption) ?_ | (with_reducible refine And.intro ?_ ?_))
      refine back (i + 1) ⟨w2, by omega, hg.trans g2, ?_⟩ (by omega) (by simp only [frOk, go_sem]; exact iv (by omega))
      rw [show (7 + b * 32 + (i : Int)).toNat = 7 + b.toNat * 32 + i by omega] at o2
      exact o2
    · obtain rfl : i = 32 := by omega
      generalize clearTo a b 32 = cl at *
      repeat' (first | simp -implicitDefEqProofs only [go_sem] | refine acond_decF (by omega) ?_ | refine acond_decT (by omega) ?_ | refine acond_ndecF (by omega) ?_ | refine acond_ndecT (by omega) ?_ | refine acond_dec (fun _ => ?_) (fun _ => ?_) | refine acond_ndec (fun _ => ?_) (fun _ => ?_) | refine agrd_dec (fun _ => ?_) (fun _ => ?_) | refine agrd_decf (fun _ => ?_) (fun _ => ?_) | refine agrd_ndec (fun _ => ?_) (fun _ => ?_) | refine agrd_ndecf (fun _ => ?_) (fun _ => ?_) | refine abi_len_sl' (by assumption) ?_ | refine aixs_sln (by assumption) ?_ | refine afa_sl (by assumption) ?_ | (refine aK_sl (by assumption) (by omega) ?_; first | rintro _ ⟨rfl, _⟩ | (intro _ hx; obtain ⟨_, rfl, _, _⟩ := EvD.out hx) | (intro _ hx; obtain ⟨_, _, rfl, _, _, _⟩ := JobD.out hx) | rintro _ ⟨_, rfl, _⟩) | rw [SlR.one (by assumption)] | rw [SlR.leaf (by assumption)] | simp -implicitDefEqProofs (disch := omega) only [wrap_in, u8_small, Int.tmod_eq_emod_of_nonneg, Int.tdiv_eq_ediv_of_nonneg] | refine aK_sub (by assumption) ?_ | refine aix_strn (fun _ _ => ?_) | ((with_reducible refine adraw_seq ?_ ?_ ?_); (· kernel_rfl); (· decide +kernel)) | simp -implicitDefEqProofs only [go_sem, slCells_own, aapp_own] | (with_reducible refine And.intro (by omega) ?_) | refine And.intro (by omega) (And.intro (by omega) ?_) | refine acond_split (fun _ => ?_) (fun _ => ?_) | refine agrd_bt (fun _ => ?_) (fun _ => ?_) | refine agrd_bf (fun _ => ?_) (fun _ => ?_) | refine retK_eq ?_ | refine retK_back (by assumption) ?_ | refine retK_eq2 ?_ | refine retK_back2 (by assumption) ?_ | (with_reducible refine And.intro ?_ ?_))
      exact retK_one (Chg.newS hw s1 f1 hg ho)
  · rw [clearBuf, if_neg hp]
    repeat' (first | simp -implicitDefEqProofs only [go_sem] | (refine ACallK.eq (CellsOk_spec _ _ a _ (SlR.sub' ha)) ?_) | (refine ACallK.eq (InCell_spec _ _ _) ?_) | refine acond_decF (by omega) ?_ | refine acond_decT (by omega) ?_ | refine acond_ndecF (by omega) ?_ | refine acond_ndecT (by omega) ?_ | refine acond_dec (fun _ => ?_) (fun _ => ?_) | refine acond_ndec (fun _ => ?_) (fun _ => ?_) | refine agrd_dec (fun _ => ?_) (fun _ => ?_) | refine agrd_decf (fun _ => ?_) (fun _ => ?_) | refine agrd_ndec (fun _ => ?_) (fun _ => ?_) | refine agrd_ndecf (fun _ => ?_) (fun _ => ?_) | refine abi_len_sl' (by assumption) ?_ | refine aixs_sln (by assumption) ?_ | refine afa_sl (by assumption) ?_ | (refine aK_sl (by assumption) (by omega) ?_; first | rintro _ ⟨rfl, _⟩ | (intro _ hx; obtain ⟨_, rfl, _, _⟩ := EvD.out hx) | (intro _ hx; obtain ⟨_, _, rfl, _, _, _⟩ := JobD.out hx) | rintro _ ⟨_, rfl, _⟩) | rw [SlR.one (by assumption)] | rw [SlR.leaf (by assumption)] | simp -implicitDefEqProofs (disch := omega) only [wrap_in, u8_small, Int.tmod_eq_emod_of_nonneg, Int.tdiv_eq_ediv_of_nonneg] | refine aK_sub (by assumption) ?_ | refine aix_strn (fun _ _ => ?_) | ((with_reducible refine adraw_seq ?_ ?_ ?_); (· kernel_rfl); (· decide +kernel)) | simp -implicitDefEqProofs only [go_sem, slCells_own, aapp_own] | (with_reducible refine And.intro (by omega) ?_) | refine And.intro (by omega) (And.intro (by omega) ?_) | refine acond_split (fun _ => ?_) (fun _ => ?_) | refine agrd_bt (fun _ => ?_) (fun _ => ?_) | refine agrd_bf (fun _ => ?_) (fun _ => ?_) | refine retK_eq ?_ | refine retK_back (by assumption) ?_ | refine retK_eq2 ?_ | refine retK_back2 (by assumption) ?_ | (with_reducible refine And.intro ?_ ?_))
    all_goals first
      | exact retK_one ⟨s1, S1, o1, f1⟩
      | (exfalso; exact hp ⟨by simp_all, by split at * <;> omega⟩)
theorem ownNil {α : Type} [Ob α] [Own α] [Flat α] {H : AH} {b : Nat} (h : H.blk b = some ⟨[], Ob.n α⟩) : OwnS H [b] (.sl b 0 0) ([] : List α) := ownS_nil h
theorem flushNow_ok {a : List Int} (h : cellsOk a = true) : flushNow a = ((clearBuf a (a.getD 0 0 % 2)).set 0 ((a.getD 0 0 + 1) % 281474976710656), reportIn a (a.getD 0 0 % 2)) := by rw [flushNow, if_pos h]
theorem FlushNow_spec (W0 : World) (v : AV) (a : List Int) (H : AH) (ha : SlR W0 H v a) (hl : a.length ≤ 1000000000000) :
    ACalls Try.prog W0 213 [v] H (fun r H' => ∃ u t, r = .tup [u, t] ∧ Sub H H' ∧ ∃ S T, OwnS H' S u (flushNow a).1 ∧ OwnS H' T t (flushNow a).2 ∧ Fresh H.nxt (S ++ T)) := by
  refine acallw Try.func213 rfl (by kernel_rfl) (by kernel_rfl) fun hc hw => ?_
  repeat' (first | simp -implicitDefEqProofs only [go_sem] | refine acond_decF (by omega) ?_ | refine acond_decT (by omega) ?_ | refine acond_ndecF (by omega) ?_ | refine acond_ndecT (by omega) ?_ | refine acond_dec (fun _ => ?_) (fun _ => ?_) | refine acond_ndec (fun _ => ?_) (fun _ => ?_) | refine agrd_dec (fun _ => ?_) (fun _ => ?_) | refine agrd_decf (fun _ => ?_) (fun _ => ?_) | refine agrd_ndec (fun _ => ?_) (fun _ => ?_) | refine agrd_ndecf (fun _ => ?_) (fun _ => ?_) | refine abi_len_sl' (by assumption) ?_ | refine aixs_sln (by assumption) ?_ | refine afa_sl (by assumption) ?_ | (refine aK_sl (by assumption) (by omega) ?_; first | rintro _ ⟨rfl, _⟩ | (intro _ hx; obtain ⟨_, rfl, _, _⟩ := EvD.out hx) | (intro _ hx; obtain ⟨_, _, rfl, _, _, _⟩ := JobD.out hx) | rintro _ ⟨_, rfl, _⟩) | rw [SlR.one (by assumption)] | rw [SlR.leaf (by assumption)] | simp -implicitDefEqProofs (disch := omega) only [wrap_in, u8_small, Int.tmod_eq_emod_of_nonneg, Int.tdiv_eq_ediv_of_nonneg] | refine aK_sub (by assumption) ?_ | refine aix_strn (fun _ _ => ?_) | ((with_reducible refine adraw_seq ?_ ?_ ?_); (· kernel_rfl); (· decide +kernel)) | simp -implicitDefEqProofs only [go_sem, slCells_own, aapp_own] | (with_reducible refine And.intro (by omega) ?_) | refine And.intro (by omega) (And.intro (by omega) ?_) | refine acond_split (fun _ => ?_) (fun _ => ?_) | refine agrd_bt (fun _ => ?_) (fun _ => ?_) | refine agrd_bf (fun _ => ?_) (fun _ => ?_) | refine retK_eq ?_ | refine retK_back (by assumption) ?_ | refine retK_eq2 ?_ | refine retK_back2 (by assumption) ?_ | (with_reducible refine And.intro ?_ ?_))
  refine ACallK.of (l2Copy_ok _ v a _ ha hl).cl ?_
  rintro x H1 ⟨⟨s1, S1, o1, f1⟩, c1⟩
  have hb1 : ∀ b ∈ S1, b < H1.nxt := fun b hb => c1.1.lt' (o1.isin b hb)
  have hw1 := c1.1
  by_cases hp : cellsOk a = true
  · rw [flushNow_ok hp]
    have hlen := cellsOk_len hp
    have hW := cellsOk_get hp 0
    unfold wordP at hW
    repeat' (first | simp -implicitDefEqProofs only [go_sem] | (refine ACallK.eq (CellsOk_spec _ _ a _ (SlR.sub' ha)) ?_; rw [hp]) | (refine ixI ha ?_) | (refine rdI ha ?_) | (simp -implicitDefEqProofs (disch := omega) only [Int.tmod_eq_emod_of_nonneg]) | refine acond_decF (by omega) ?_ | refine acond_decT (by omega) ?_ | refine acond_ndecF (by omega) ?_ | refine acond_ndecT (by omega) ?_ | refine acond_dec (fun _ => ?_) (fun _ => ?_) | refine acond_ndec (fun _ => ?_) (fun _ => ?_) | refine agrd_dec (fun _ => ?_) (fun _ => ?_) | refine agrd_decf (fun _ => ?_) (fun _ => ?_) | refine agrd_ndec (fun _ => ?_) (fun _ => ?_) | refine agrd_ndecf (fun _ => ?_) (fun _ => ?_) | refine abi_len_sl' (by assumption) ?_ | refine aixs_sln (by assumption) ?_ | refine afa_sl (by assumption) ?_ | (refine aK_sl (by assumption) (by omega) ?_; first | rintro _ ⟨rfl, _⟩ | (intro _ hx; obtain ⟨_, rfl, _, _⟩ := EvD.out hx) | (intro _ hx; obtain ⟨_, _, rfl, _, _, _⟩ := JobD.out hx) | rintro _ ⟨_, rfl, _⟩) | rw [SlR.one (by assumption)] | rw [SlR.leaf (by assumption)] | simp -implicitDefEqProofs (disch := omega) only [wrap_in, u8_small, Int.tmod_eq_emod_of_nonneg, Int.tdiv_eq_ediv_of_nonneg] | refine aK_sub (by assumption) ?_ | refine aix_strn (fun _ _ => ?_) | ((with_reducible refine adraw_seq ?_ ?_ ?_); (· kernel_rfl); (· decide +kernel)) | simp -implicitDefEqProofs only [go_sem, slCells_own, aapp_own] | (with_reducible refine And.intro (by omega) ?_) | refine And.intro (by omega) (And.intro (by omega) ?_) | refine acond_split (fun _ => ?_) (fun _ => ?_) | refine agrd_bt (fun _ => ?_) (fun _ => ?_) | refine agrd_bf (fun _ => ?_) (fun _ => ?_) | refine retK_eq ?_ | refine retK_back (by assumption) ?_ | refine retK_eq2 ?_ | refine retK_back2 (by assumption) ?_ | (with_reducible refine And.intro ?_ ?_))
    refine ACallK.of (ReportIn_spec _ v a _ _ (SlR.sub' ha)).cl ?_
    rintro t H2 ⟨⟨s2, S2, o2, f2⟩, c2⟩
    have hb2 : ∀ b ∈ S2, b < H2.nxt := fun b hb => c2.1.lt' (o2.isin b hb)
    repeat' (first | simp -implicitDefEqProofs only [go_sem] | refine acond_decF (by omega) ?_ | refine acond_decT (by omega) ?_ | refine acond_ndecF (by omega) ?_ | refine acond_ndecT (by omega) ?_ | refine acond_dec (fun _ => ?_) (fun _ => ?_) | refine acond_ndec (fun _ => ?_) (fun _ => ?_) | refine agrd_dec (fun _ => ?_) (fun _ => ?_) | refine agrd_decf (fun _ => ?_) (fun _ => ?_) | refine agrd_ndec (fun _ => ?_) (fun _ => ?_) | refine agrd_ndecf (fun _ => ?_) (fun _ => ?_) | refine abi_len_sl' (by assumption) ?_ | refine aixs_sln (by assumption) ?_ | refine afa_sl (by assumption) ?_ | (refine aK_sl (by assumption) (by omega) ?_; first | rintro _ ⟨rfl, _⟩ | (intro _ hx; obtain ⟨_, rfl, _, _⟩ := EvD.out hx) | (intro _ hx; obtain ⟨_, _, rfl, _, _, _⟩ := JobD.out hx) | rintro _ ⟨_, rfl, _⟩) | rw [SlR.one (by assumption)] | rw [SlR.leaf (by assumption)] | simp -implicitDefEqProofs (disch := omega) only [wrap_in, u8_small, Int.tmod_eq_emod_of_nonneg, Int.tdiv_eq_ediv_of_nonneg] | refine aK_sub (by assumption) ?_ | refine aix_strn (fun _ _ => ?_) | ((with_reducible refine adraw_seq ?_ ?_ ?_); (· kernel_rfl); (· decide +kernel)) | simp -implicitDefEqProofs only [go_sem, slCells_own, aapp_own] | (with_reducible refine And.intro (by omega) ?_) | refine And.intro (by omega) (And.intro (by omega) ?_) | refine acond_split (fun _ => ?_) (fun _ => ?_) | refine agrd_bt (fun _ => ?_) (fun _ => ?_) | refine agrd_bf (fun _ => ?_) (fun _ => ?_) | refine retK_eq ?_ | refine retK_back (by assumption) ?_ | refine retK_eq2 ?_ | refine retK_back2 (by assumption) ?_ | (with_reducible refine And.intro ?_ ?_))
    refine ACallK.of (ClearBuf_spec _ x a _ _ ((o1.sub s2).slr) hl).cl ?_
    rintro y H3 ⟨⟨s3, S3, o3, f3⟩, c3⟩
    have hy := o3.slr (W0 := W0)
    have hyl := clearBuf_length a (a.getD 0 0 % 2)
    have hz := clearBuf_zero (a := a) (b := a.getD 0 0 % 2)
    have hmod := l2Mod_ok W0 (a.getD 0 0 + 1) H3 (by simp only [inI64]; omega)
    repeat' (first | simp -implicitDefEqProofs only [go_sem] | (refine ixI ha ?_) | (refine ixI hy ?_) | (refine rdI ha ?_) | (simp -implicitDefEqProofs (disch := omega) only [wrap_in]) | (refine ACallK.eq hmod ?_) | (refine stI o3 c3.1 ?_; intro H4 w4 g4 o4) | refine acond_decF (by omega) ?_ | refine acond_decT (by omega) ?_ | refine acond_ndecF (by omega) ?_ | refine acond_ndecT (by omega) ?_ | refine acond_dec (fun _ => ?_) (fun _ => ?_) | refine acond_ndec (fun _ => ?_) (fun _ => ?_) | refine agrd_dec (fun _ => ?_) (fun _ => ?_) | refine agrd_decf (fun _ => ?_) (fun _ => ?_) | refine agrd_ndec (fun _ => ?_) (fun _ => ?_) | refine agrd_ndecf (fun _ => ?_) (fun _ => ?_) | refine abi_len_sl' (by assumption) ?_ | refine aixs_sln (by assumption) ?_ | refine afa_sl (by assumption) ?_ | (refine aK_sl (by assumption) (by omega) ?_; first | rintro _ ⟨rfl, _⟩ | (intro _ hx; obtain ⟨_, rfl, _, _⟩ := EvD.out hx) | (intro _ hx; obtain ⟨_, _, rfl, _, _, _⟩ := JobD.out hx) | rintro _ ⟨_, rfl, _⟩) | rw [SlR.one (by assumption)] | rw [SlR.leaf (by assumption)] | simp -implicitDefEqProofs (disch := omega) only [wrap_in, u8_small, Int.tmod_eq_emod_of_nonneg, Int.tdiv_eq_ediv_of_nonneg] | refine aK_sub (by assumption) ?_ | refine aix_strn (fun _ _ => ?_) | ((with_reducible refine adraw_seq ?_ ?_ ?_); (· kernel_rfl); (· decide +kernel)) | simp -implicitDefEqProofs only [go_sem, slCells_own, aapp_own] | (with_reducible refine And.intro (by omega) ?_) | refine And.intro (by omega) (And.intro (by omega) ?_) | refine acond_split (fun _ => ?_) (fun _ => ?_) | refine agrd_bt (fun _ => ?_) (fun _ => ?_) | refine agrd_bf (fun _ => ?_) (fun _ => ?_) | refine retK_eq ?_ | refine retK_back (by assumption) ?_ | refine retK_eq2 ?_ | refine retK_back2 (by assumption) ?_ | (with_reducible refine And.intro ?_ ?_))
    have h34 := Chg.newS (H0 := H2) c2.1 s3 f3 g4 o4
    exact retK_two ⟨y, t, rfl, s1.trans (s2.trans h34.1), S3, S2, o4, o2.sub h34.1, Fresh.app (f3.le (s1.trans s2).1) (f2.le s1.1) (fun b hb hc => by have := f3.2 b hb; have := hb2 b hc; omega)⟩
  · rw [flushNow, if_neg hp]
    repeat' (first | simp -implicitDefEqProofs only [go_sem] | (refine ACallK.eq (CellsOk_spec _ _ a _ (SlR.sub' ha)) ?_) | refine acond_decF (by omega) ?_ | refine acond_decT (by omega) ?_ | refine acond_ndecF (by omega) ?_ | refine acond_ndecT (by omega) ?_ | refine acond_dec (fun _ => ?_) (fun _ => ?_) | refine acond_ndec (fun _ => ?_) (fun _ => ?_) | refine agrd_dec (fun _ => ?_) (fun _ => ?_) | refine agrd_decf (fun _ => ?_) (fun _ => ?_) | refine agrd_ndec (fun _ => ?_) (fun _ => ?_) | refine agrd_ndecf (fun _ => ?_) (fun _ => ?_) | refine abi_len_sl' (by assumption) ?_ | refine aixs_sln (by assumption) ?_ | refine afa_sl (by assumption) ?_ | (refine aK_sl (by assumption) (by omega) ?_; first | rintro _ ⟨rfl, _⟩ | (intro _ hx; obtain ⟨_, rfl, _, _⟩ := EvD.out hx) | (intro _ hx; obtain ⟨_, _, rfl, _, _, _⟩ := JobD.out hx) | rintro _ ⟨_, rfl, _⟩) | rw [SlR.one (by assumption)] | rw [SlR.leaf (by assumption)] | simp -implicitDefEqProofs (disch := omega) only [wrap_in, u8_small, Int.tmod_eq_emod_of_nonneg, Int.tdiv_eq_ediv_of_nonneg] | refine aK_sub (by assumption) ?_ | refine aix_strn (fun _ _ => ?_) | ((with_reducible refine adraw_seq ?_ ?_ ?_); (· kernel_rfl); (· decide +kernel)) | simp -implicitDefEqProofs only [go_sem, slCells_own, aapp_own] | (with_reducible refine And.intro (by omega) ?_) | refine And.intro (by omega) (And.intro (by omega) ?_) | refine acond_split (fun _ => ?_) (fun _ => ?_) | refine agrd_bt (fun _ => ?_) (fun _ => ?_) | refine agrd_bf (fun _ => ?_) (fun _ => ?_) | refine retK_eq ?_ | refine retK_back (by assumption) ?_ | refine retK_eq2 ?_ | refine retK_back2 (by assumption) ?_ | (with_reducible refine And.intro ?_ ?_))
    all_goals first
      | (exfalso; simp_all; done)
      | exact retK_two ⟨x, .sl H1.nxt 0 0, rfl, by repeat (first | exact Sub.refl _ | assumption | refine Sub.new (by assumption) ?_ _ _ | refine Sub.kill_new (by assumption) ?_ _ _ | refine Sub.trans ?_ (by assumption)), S1, [H1.nxt], o1.sub (by repeat (first | exact Sub.refl _ | assumption | refine Sub.new (by assumption) ?_ _ _ | refine Sub.kill_new (by assumption) ?_ _ _ | refine Sub.trans ?_ (by assumption))), ownS_nil (by simp only [go_sem]; rfl), Fresh.app f1 ⟨by simp, by have := s1.1; simp; omega⟩ (fun b hb hc => by have := hb1 b hb; simp at hc; omega)⟩
theorem flushNow_length (a : List Int) : (flushNow a).1.length = a.length := by
  unfold flushNow; split
  · simp [clearBuf_length]
  · rfl
theorem flushNow_rows (a : List Int) : (flushNow a).2.length ≤ 4 := by
  unfold flushNow; split
  · exact reportTo_length a _ 4
  · simp
end Go.Proofs.Ytipfnhfcoolhaaa.Aw
