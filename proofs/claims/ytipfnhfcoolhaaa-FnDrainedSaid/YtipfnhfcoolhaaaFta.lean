/- Keys of cells: both packages. -/
import Derived.Test.YtipfnhfcoolhaaaFi
namespace Go.Proofs.Ytipfnhfcoolhaaa.Aw
open Go Go.RowKit
set_option linter.unusedVariables false
set_option linter.unusedSimpArgs false
set_option maxRecDepth 100000
set_option maxHeartbeats 2000000
attribute [-go_sem] wr_eq
def tagOf (a : List Int) (s : Nat) : Int := a.getD (3 + s) 0
def tabAt (a : List Int) (s : Nat) : Bool := decide (tagOf a s = 0) || decide ((untag (tagOf a s)).2 ≠ 0 ∧ (findKey a (untag (tagOf a s)).1).1 = s)
def tableOk (a : List Int) : Bool := cellsOk a && (List.range 4).all (tabAt a)
theorem tab_t {a : List Int} {s : Nat} (h : tagOf a s = 0 ∨ ((untag (tagOf a s)).2 ≠ 0 ∧ (findKey a (untag (tagOf a s)).1).1 = s)) : tabAt a s = true := by
  unfold tabAt
  rcases h with h | h
  · rw [decide_eq_true h]; rfl
  · rw [decide_eq_true h, Bool.or_true]
theorem tab_f {a : List Int} {s : Nat} (h1 : tagOf a s ≠ 0) (h2 : ¬ ((untag (tagOf a s)).2 ≠ 0 ∧ (findKey a (untag (tagOf a s)).1).1 = s)) : tabAt a s = false := by
  unfold tabAt; rw [decide_eq_false h1, decide_eq_false h2]; rfl
theorem table_f {a : List Int} {s : Nat} (hp : cellsOk a = true) (hs : s < 4) (h : tabAt a s = false) : tableOk a = false := by
  unfold tableOk; rw [hp, range_fail hs h]; rfl
theorem table_t {a : List Int} (hp : cellsOk a = true) (h : RTo (tabAt a) 4) : tableOk a = true := by
  unfold tableOk; rw [hp, range_done h (Nat.le_refl _)]; rfl
def keysIn (a : List Int) : Nat → List ByteArray
  | 0 => []
  | s + 1 => if (untag (tagOf a s)).2 = 0 then keysIn a s else keysIn a s ++ [(untag (tagOf a s)).1]
def keysOf (a : List Int) : List ByteArray := if cellsOk a = true then keysIn a 4 else []
theorem keysIn_length (a : List Int) : ∀ n, (keysIn a n).length ≤ n
  | 0 => Nat.le_refl _
  | n + 1 => by
    unfold keysIn
    have := keysIn_length a n
    split
    · omega
    · rw [List.length_append]; simp; omega
theorem untag_sz (n : Int) : (untag n).1.size ≤ big := by have := untag_size n; simp only [big]; omega
theorem untag_key {n : Int} (h : (untag n).2 ≠ 0) : keyOk (untag n).1 = true := by
  unfold untag at h ⊢
  split at h
  · rename_i hk
    rw [if_pos hk]
    have h2 := hk.2.2.1
    unfold unpackKey at h2 ⊢
    split at h2
    · rename_i hk2; rw [if_pos hk2]; exact hk2.2.2
    · cases h2
  · exact absurd rfl h
theorem untag_none {n : Int} (h : (untag n).2 = 0) : (untag n).1 = ⟨#[]⟩ := by
  unfold untag at h ⊢
  split at h
  · rename_i hk; simp only at h; omega
  · rename_i hk; rw [if_neg hk]
theorem findKey_empty (a : List Int) : findKey a ⟨#[]⟩ = (-1, 0) := by
  unfold findKey
  rw [if_neg]
  rintro ⟨_, h⟩
  exact absurd h (by decide)
theorem own_str (H : AH) {s : ByteArray} (h : s.size ≤ big) : Own.own H [] [AV.v (.string s)] s := ⟨rfl, rfl, h⟩
theorem ownS_str {H : AH} {b : Nat} (h : H.blk b = some ⟨[], 1⟩) : OwnS H [b] (.sl b 0 0) ([] : List ByteArray) := .inr ⟨b, 0, _, [], rfl, h, by show 0 + 0 * 1 ≤ 0; omega, by simp, rfl, .nil⟩
theorem KeysIn_spec (W0 : World) (v : AV) (a : List Int) (H : AH) (ha : SlR W0 H v a) : ACalls Try.prog W0 214 [v] H (fun u H' => NewS H H' u (keysOf a)) := by
  refine acallw Try.func214 rfl (by kernel_rfl) (by kernel_rfl) fun hc hw => ?_
  by_cases hp : cellsOk a = true
  · have hl := cellsOk_len hp
    repeat' (first | simp -implicitDefEqProofs only [go_sem] | refine acond_decF (by omega) ?_ | refine acond_decT (by omega) ?_ | refine acond_ndecF (by omega) ?_ | refine acond_ndecT (by omega) ?_ | refine acond_dec (fun _ => ?_) (fun _ => ?_) | refine acond_ndec (fun _ => ?_) (fun _ => ?_) | refine agrd_dec (fun _ => ?_) (fun _ => ?_) | refine agrd_decf (fun _ => ?_) (fun _ => ?_) | refine agrd_ndec (fun _ => ?_) (fun _ => ?_) | refine agrd_ndecf (fun _ => ?_) (fun _ => ?_) | refine abi_len_sl' (by assumption) ?_ | refine aixs_sln (by assumption) ?_ | refine afa_sl (by assumption) ?_ | (refine aK_sl (by assumption) (by omega) ?_; first | rintro _ ⟨rfl, _⟩ | (intro _ hx; obtain ⟨_, rfl, _, _⟩ := EvD.out hx) | (intro _ hx; obtain ⟨_, _, rfl, _, _, _⟩ := JobD.out hx) | rintro _ ⟨_, rfl, _⟩) | rw [SlR.one (by assumption)] | rw [SlR.leaf (by assumption)] | simp -implicitDefEqProofs (disch := omega) only [wrap_in, u8_small, Int.tmod_eq_emod_of_nonneg, Int.tdiv_eq_ediv_of_nonneg] | refine aK_sub (by assumption) ?_ | refine aix_strn (fun _ _ => ?_) | ((with_reducible refine adraw_seq ?_ ?_ ?_); (· kernel_rfl); (· decide +kernel)) | simp -implicitDefEqProofs only [go_sem, slCells_own, aapp_own] | (with_reducible refine And.intro (by omega) ?_) | refine And.intro (by omega) (And.intro (by omega) ?_) | refine acond_split (fun _ => ?_) (fun _ => ?_) | refine agrd_bt (fun _ => ?_) (fun _ => ?_) | refine agrd_bf (fun _ => ?_) (fun _ => ?_) | refine retK_eq ?_ | refine retK_back (by assumption) ?_ | refine retK_eq2 ?_ | refine retK_back2 (by assumption) ?_ | (with_reducible refine And.intro ?_ ?_))
    refine acode_while (fun (p : Nat × AV) => [(0, v), (3, p.2), (4, .v (.int .i64 p.1))]) (fun p H' => H'.wf ∧ Sub H H' ∧ p.1 ≤ 4 ∧ ∃ S, OwnS H' S p.2 (keysIn a p.1) ∧ S.Nodup ∧ ∀ x ∈ S, H.nxt ≤ x) (fun p => 4 - p.1) (0, .sl H.nxt 0 0) ?_ ?_
    · exact ⟨hw.new _ _, by repeat (first | exact Sub.refl _ | assumption | refine Sub.new (by assumption) ?_ _ _ | refine Sub.kill_new (by assumption) ?_ _ _ | refine Sub.trans ?_ (by assumption)), by simp only; omega, [H.nxt], ownS_str (by simp only [go_sem]), by simp, by simp⟩
    rintro ⟨i, u⟩ H' ⟨hw', hs, hi, S, ho, hn, hS⟩
    simp only at hi ho ⊢
    rcases Nat.lt_or_ge i 4 with hlt | hge
    · have e1 : keyCell (i : Int) = ((3 + i : Nat) : Int) := by rw [keyCell, if_pos (by omega)]; omega
      have hgI := getD_I ha (3 + i)
      have e2 : (((3 + i : Nat) : Int)).toNat = 3 + i := by omega
      have hkl := keysIn_length a i
      have hbS : H'.nxt ∉ S := fun hm => by have := hw'.lt' (ho.isin _ hm); omega
      have d4 : decide ((i : Int) < 4) = true := decide_eq_true (by omega)
      by_cases hk : (untag (a.getD (3 + i) 0)).2 = 0
      · have e : keysIn a (i + 1) = keysIn a i := by rw [keysIn, tagOf, if_pos hk]
        repeat' (first | simp -implicitDefEqProofs only [go_sem] | (refine ACallK.eq (CellsOk_spec _ _ a _ (SlR.sub' ha)) ?_; rw [hp]) | (simp -implicitDefEqProofs only [d4]) | (refine ACallK.eq (KeyCell_spec _ _ _) ?_; rw [e1]) | (refine ixI ha ?_) | (rw [e2]) | (refine rdI ha ?_) | refine ACallK.eq (Untag_spec _ _ _ hgI) ?_ | (refine acond_ndecT hk ?_) | refine acond_decF (by omega) ?_ | refine acond_decT (by omega) ?_ | refine acond_ndecF (by omega) ?_ | refine acond_ndecT (by omega) ?_ | refine acond_dec (fun _ => ?_) (fun _ => ?_) | refine acond_ndec (fun _ => ?_) (fun _ => ?_) | refine agrd_dec (fun _ => ?_) (fun _ => ?_) | refine agrd_decf (fun _ => ?_) (fun _ => ?_) | refine agrd_ndec (fun _ => ?_) (fun _ => ?_) | refine agrd_ndecf (fun _ => ?_) (fun _ => ?_) | refine abi_len_sl' (by assumption) ?_ | refine aixs_sln (by assumption) ?_ | refine afa_sl (by assumption) ?_ | (refine aK_sl (by assumption) (by omega) ?_; first | rintro _ ⟨rfl, _⟩ | (intro _ hx; obtain ⟨_, rfl, _, _⟩ := EvD.out hx) | (intro _ hx; obtain ⟨_, _, rfl, _, _, _⟩ := JobD.out hx) | rintro _ ⟨_, rfl, _⟩) | rw [SlR.one (by assumption)] | rw [SlR.leaf (by assumption)] | simp -implicitDefEqProofs (disch := omega) only [wrap_in, u8_small, Int.tmod_eq_emod_of_nonneg, Int.tdiv_eq_ediv_of_nonneg] | refine aK_sub (by assumption) ?_ | refine aix_strn (fun _ _ => ?_) | ((with_reducible refine adraw_seq ?_ ?_ ?_); (· kernel_rfl); (· decide +kernel)) | simp -implicitDefEqProofs only [go_sem, slCells_own, aapp_own] | (with_reducible refine And.intro (by omega) ?_) | refine And.intro (by omega) (And.intro (by omega) ?_) | refine acond_split (fun _ => ?_) (fun _ => ?_) | refine agrd_bt (fun _ => ?_) (fun _ => ?_) | refine agrd_bf (fun _ => ?_) (fun _ => ?_) | refine retK_eq ?_ | refine retK_back (by assumption) ?_ | refine retK_eq2 ?_ | refine retK_back2 (by assumption) ?_ | (with_reducible refine And.intro ?_ ?_))
        all_goals exact back (i + 1, u) ⟨hw', hs, by simp only; omega, S, by simp only [e]; exact ho, hn, hS⟩ (by simp only; omega)
      · have e : keysIn a (i + 1) = keysIn a i ++ [(untag (a.getD (3 + i) 0)).1] := by rw [keysIn, tagOf, if_neg hk]
        repeat' (first | simp -implicitDefEqProofs only [go_sem] | (refine ACallK.eq (CellsOk_spec _ _ a _ (SlR.sub' ha)) ?_; rw [hp]) | (simp -implicitDefEqProofs only [d4]) | (refine ACallK.eq (KeyCell_spec _ _ _) ?_; rw [e1]) | (refine ixI ha ?_) | (rw [e2]) | (refine rdI ha ?_) | refine ACallK.eq (Untag_spec _ _ _ hgI) ?_ | (refine acond_ndecF hk ?_) | (refine app_one (x := (untag (a.getD (3 + i) 0)).1) (S2 := []) (ho.sub ((Sub.refl _).new hw' _ _)) (own_str _ (untag_sz _)) (by rw [List.append_nil]; exact hn) (hw'.new _ _) (by simp only [go_sem]) hbS ?_; intro H3 S3 v3 w3 o3 u3 l3) | refine acond_decF (by omega) ?_ | refine acond_decT (by omega) ?_ | refine acond_ndecF (by omega) ?_ | refine acond_ndecT (by omega) ?_ | refine acond_dec (fun _ => ?_) (fun _ => ?_) | refine acond_ndec (fun _ => ?_) (fun _ => ?_) | refine agrd_dec (fun _ => ?_) (fun _ => ?_) | refine agrd_decf (fun _ => ?_) (fun _ => ?_) | refine agrd_ndec (fun _ => ?_) (fun _ => ?_) | refine agrd_ndecf (fun _ => ?_) (fun _ => ?_) | refine abi_len_sl' (by assumption) ?_ | refine aixs_sln (by assumption) ?_ | refine afa_sl (by assumption) ?_ | (refine aK_sl (by assumption) (by omega) ?_; first | rintro _ ⟨rfl, _⟩ | (intro _ hx; obtain ⟨_, rfl, _, _⟩ := EvD.out hx) | (intro _ hx; obtain ⟨_, _, rfl, _, _, _⟩ := JobD.out hx) | rintro _ ⟨_, rfl, _⟩) | rw [SlR.one (by assumption)] | rw [SlR.leaf (by assumption)] | simp -implicitDefEqProofs (disch := omega) only [wrap_in, u8_small, Int.tmod_eq_emod_of_nonneg, Int.tdiv_eq_ediv_of_nonneg] | refine aK_sub (by assumption) ?_ | refine aix_strn (fun _ _ => ?_) | ((with_reducible refine adraw_seq ?_ ?_ ?_); (· kernel_rfl); (· decide +kernel)) | simp -implicitDefEqProofs only [go_sem, slCells_own, aapp_own] | (with_reducible refine And.intro (by omega) ?_) | refine And.intro (by omega) (And.intro (by omega) ?_) | refine acond_split (fun _ => ?_) (fun _ => ?_) | refine agrd_bt (fun _ => ?_) (fun _ => ?_) | refine agrd_bf (fun _ => ?_) (fun _ => ?_) | refine retK_eq ?_ | refine retK_back (by assumption) ?_ | refine retK_eq2 ?_ | refine retK_back2 (by assumption) ?_ | (with_reducible refine And.intro ?_ ?_))
        have u4 := ((by rw [List.append_nil] at u3; exact u3.start (H := H') ((Sub.refl _).new hw' _ _) : Upd S H' H3 S3)).sub hw hs hS
        exact back (i + 1, v3) ⟨w3, u4.1, by simp only; omega, S3, by simp only [e]; exact o3, u3.2.2.2, u4.2⟩ (by simp only; omega)
    · obtain rfl : i = 4 := by omega
      repeat' (first | simp -implicitDefEqProofs only [go_sem] | refine acond_decF (by omega) ?_ | refine acond_decT (by omega) ?_ | refine acond_ndecF (by omega) ?_ | refine acond_ndecT (by omega) ?_ | refine acond_dec (fun _ => ?_) (fun _ => ?_) | refine acond_ndec (fun _ => ?_) (fun _ => ?_) | refine agrd_dec (fun _ => ?_) (fun _ => ?_) | refine agrd_decf (fun _ => ?_) (fun _ => ?_) | refine agrd_ndec (fun _ => ?_) (fun _ => ?_) | refine agrd_ndecf (fun _ => ?_) (fun _ => ?_) | refine abi_len_sl' (by assumption) ?_ | refine aixs_sln (by assumption) ?_ | refine afa_sl (by assumption) ?_ | (refine aK_sl (by assumption) (by omega) ?_; first | rintro _ ⟨rfl, _⟩ | (intro _ hx; obtain ⟨_, rfl, _, _⟩ := EvD.out hx) | (intro _ hx; obtain ⟨_, _, rfl, _, _, _⟩ := JobD.out hx) | rintro _ ⟨_, rfl, _⟩) | rw [SlR.one (by assumption)] | rw [SlR.leaf (by assumption)] | simp -implicitDefEqProofs (disch := omega) only [wrap_in, u8_small, Int.tmod_eq_emod_of_nonneg, Int.tdiv_eq_ediv_of_nonneg] | refine aK_sub (by assumption) ?_ | refine aix_strn (fun _ _ => ?_) | ((with_reducible refine adraw_seq ?_ ?_ ?_); (· kernel_rfl); (· decide +kernel)) | simp -implicitDefEqProofs only [go_sem, slCells_own, aapp_own] | (with_reducible refine And.intro (by omega) ?_) | refine And.intro (by omega) (And.intro (by omega) ?_) | refine acond_split (fun _ => ?_) (fun _ => ?_) | refine agrd_bt (fun _ => ?_) (fun _ => ?_) | refine agrd_bf (fun _ => ?_) (fun _ => ?_) | refine retK_eq ?_ | refine retK_back (by assumption) ?_ | refine retK_eq2 ?_ | refine retK_back2 (by assumption) ?_ | (with_reducible refine And.intro ?_ ?_))
      all_goals first | (exfalso; omega) | (rw [keysOf, if_pos hp]; exact retK_one ⟨hs, S, ho, hn, hS⟩)
  · rw [keysOf, if_neg hp]
    have hp : cellsOk a = false := by simpa using hp
    repeat' (first | simp -implicitDefEqProofs only [go_sem] | refine acond_decF (by omega) ?_ | refine acond_decT (by omega) ?_ | refine acond_ndecF (by omega) ?_ | refine acond_ndecT (by omega) ?_ | refine acond_dec (fun _ => ?_) (fun _ => ?_) | refine acond_ndec (fun _ => ?_) (fun _ => ?_) | refine agrd_dec (fun _ => ?_) (fun _ => ?_) | refine agrd_decf (fun _ => ?_) (fun _ => ?_) | refine agrd_ndec (fun _ => ?_) (fun _ => ?_) | refine agrd_ndecf (fun _ => ?_) (fun _ => ?_) | refine abi_len_sl' (by assumption) ?_ | refine aixs_sln (by assumption) ?_ | refine afa_sl (by assumption) ?_ | (refine aK_sl (by assumption) (by omega) ?_; first | rintro _ ⟨rfl, _⟩ | (intro _ hx; obtain ⟨_, rfl, _, _⟩ := EvD.out hx) | (intro _ hx; obtain ⟨_, _, rfl, _, _, _⟩ := JobD.out hx) | rintro _ ⟨_, rfl, _⟩) | rw [SlR.one (by assumption)] | rw [SlR.leaf (by assumption)] | simp -implicitDefEqProofs (disch := omega) only [wrap_in, u8_small, Int.tmod_eq_emod_of_nonneg, Int.tdiv_eq_ediv_of_nonneg] | refine aK_sub (by assumption) ?_ | refine aix_strn (fun _ _ => ?_) | ((with_reducible refine adraw_seq ?_ ?_ ?_); (· kernel_rfl); (· decide +kernel)) | simp -implicitDefEqProofs only [go_sem, slCells_own, aapp_own] | (with_reducible refine And.intro (by omega) ?_) | refine And.intro (by omega) (And.intro (by omega) ?_) | refine acond_split (fun _ => ?_) (fun _ => ?_) | refine agrd_bt (fun _ => ?_) (fun _ => ?_) | refine agrd_bf (fun _ => ?_) (fun _ => ?_) | refine retK_eq ?_ | refine retK_back (by assumption) ?_ | refine retK_eq2 ?_ | refine retK_back2 (by assumption) ?_ | (with_reducible refine And.intro ?_ ?_))
    refine acode_while (fun (p : Nat) => [(0, v), (3, .sl H.nxt 0 0), (4, .v (.int .i64 0))]) (fun p H' => H' = H.new [] 1) (fun p => 4 - p) 0 rfl ?_
    rintro i _ rfl
    repeat' (first | simp -implicitDefEqProofs only [go_sem] | (refine ACallK.eq (CellsOk_spec _ _ a _ (SlR.sub' ha)) ?_; rw [hp]) | refine acond_decF (by omega) ?_ | refine acond_decT (by omega) ?_ | refine acond_ndecF (by omega) ?_ | refine acond_ndecT (by omega) ?_ | refine acond_dec (fun _ => ?_) (fun _ => ?_) | refine acond_ndec (fun _ => ?_) (fun _ => ?_) | refine agrd_dec (fun _ => ?_) (fun _ => ?_) | refine agrd_decf (fun _ => ?_) (fun _ => ?_) | refine agrd_ndec (fun _ => ?_) (fun _ => ?_) | refine agrd_ndecf (fun _ => ?_) (fun _ => ?_) | refine abi_len_sl' (by assumption) ?_ | refine aixs_sln (by assumption) ?_ | refine afa_sl (by assumption) ?_ | (refine aK_sl (by assumption) (by omega) ?_; first | rintro _ ⟨rfl, _⟩ | (intro _ hx; obtain ⟨_, rfl, _, _⟩ := EvD.out hx) | (intro _ hx; obtain ⟨_, _, rfl, _, _, _⟩ := JobD.out hx) | rintro _ ⟨_, rfl, _⟩) | rw [SlR.one (by assumption)] | rw [SlR.leaf (by assumption)] | simp -implicitDefEqProofs (disch := omega) only [wrap_in, u8_small, Int.tmod_eq_emod_of_nonneg, Int.tdiv_eq_ediv_of_nonneg] | refine aK_sub (by assumption) ?_ | refine aix_strn (fun _ _ => ?_) | ((with_reducible refine adraw_seq ?_ ?_ ?_); (· kernel_rfl); (· decide +kernel)) | simp -implicitDefEqProofs only [go_sem, slCells_own, aapp_own] | (with_reducible refine And.intro (by omega) ?_) | refine And.intro (by omega) (And.intro (by omega) ?_) | refine acond_split (fun _ => ?_) (fun _ => ?_) | refine agrd_bt (fun _ => ?_) (fun _ => ?_) | refine agrd_bf (fun _ => ?_) (fun _ => ?_) | refine retK_eq ?_ | refine retK_back (by assumption) ?_ | refine retK_eq2 ?_ | refine retK_back2 (by assumption) ?_ | (with_reducible refine And.intro ?_ ?_))
    exact retK_one ⟨by repeat (first | exact Sub.refl _ | assumption | refine Sub.new (by assumption) ?_ _ _ | refine Sub.kill_new (by assumption) ?_ _ _ | refine Sub.trans ?_ (by assumption)), [H.nxt], ownS_str (by simp only [go_sem]), by simp, by simp⟩
end Go.Proofs.Ytipfnhfcoolhaaa.Aw
