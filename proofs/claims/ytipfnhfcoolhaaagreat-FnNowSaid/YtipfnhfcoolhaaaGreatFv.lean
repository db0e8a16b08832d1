/- The row of a slot's cells: both packages. -/
import Derived.Test.YtipfnhfcoolhaaaGreatFr
import Derived.Test.YtipfnhfcoolhaaaGreatMA
namespace Go.Proofs.YtipfnhfcoolhaaaGreat.Aw
open Go Go.RowKit
set_option linter.unusedVariables false
set_option linter.unusedSimpArgs false
set_option maxRecDepth 100000
set_option maxHeartbeats 2000000
theorem cellsOk_len {a : List Int} (h : cellsOk a = true) : a.length = 71 := (cellsOk_iff.1 h).2
theorem slotBase_bd {b s : Int} : (0 ≤ slotBase b s → (0 ≤ b ∧ b ≤ 1) ∧ (0 ≤ s ∧ s ≤ 3) ∧ slotBase b s = 7 + b * 32 + s * 8) ∧ (¬ 0 ≤ slotBase b s → slotBase b s = -1) := by
  unfold slotBase; split <;> omega
theorem keyCell_in {s : Int} (h : 0 ≤ s ∧ s ≤ 3) : keyCell s = 3 + s := by rw [keyCell, if_pos h]
theorem rowIn_bad {a : List Int} {b s : Int} (h : cellsOk a = false ∨ slotBase b s < 0) : rowIn a b s = row0 := by
  rw [rowIn, if_neg]; rintro ⟨h1, h2⟩; rcases h with h | h
  · rw [h] at h1; cases h1
  · omega
theorem inI64_wf {n : Int} (h : (Lit.int .i64 n).wf = true) : inI64 n := by
  simp [Lit.wf, IntKind.min, IntKind.max, IntKind.bits, IntKind.signed] at h
  simp only [inI64]; omega
theorem big_str {s : ByteArray} (h : s.size ≤ 140737488351232) : s.size ≤ big := Nat.le_trans h (by decide)
theorem unpackGauge_I (n : Int) : inI64 (unpackGauge n).1 ∧ inI64 (unpackGauge n).2 := by
  unfold unpackGauge; split <;> simp [inI64] <;> omega
theorem rowFrom_B (tag : Int) {raw : List Int} (hr : ∀ i, inI64 (raw.getD i 0)) : rowB (rowFrom tag raw) := by
  have hk := untag_kind tag
  obtain ⟨h1, h2, h3, h4, h5, h6, h7, h8, h9⟩ := rowK_B tag
  have hu := unpackGauge_I (raw.getD 3 0)
  by_cases hb : (untag tag).2 = 0 ∨ ¬ (raw.length : Int) = 8
  · rw [rowFrom_none hb]; exact row0_B
  have h38 : (untag tag).2 = 1 ∨ (untag tag).2 = 2 ∨ (untag tag).2 = 3 := by omega
  rcases h38 with h | h | h
  · rw [rowFrom_cnt (by omega) h]
    exact ⟨h1, h2, by simp only [inI64]; omega, h4, h5, h6, h7, h8, h9⟩
  · rw [rowFrom_gau (by omega) h]
    exact ⟨h1, h2, h3, hu.2, h5, h6, h7, h8, h9⟩
  · rw [rowFrom_tim (by omega) h]
    have hs := samples_B raw (rowK_B tag) (min 3 (raw.getD 4 0).toNat)
    have h4' := hr 4
    simp only [inI64] at h4'
    by_cases hc : (samples raw (min 3 (raw.getD 4 0).toNat) (rowK tag)).n = 3 ∧ 3 < raw.getD 4 0
    · rw [timerRow_hit rfl hc.1 hc.2]
      obtain ⟨g1, g2, g3, g4, g5, g6, g7, g8, g9⟩ := hs
      refine ⟨g1, g2, g3, g4, g5, g6, g7, g8, ?_⟩
      simp only [inI64]; split <;> omega
    · rw [timerRow_miss rfl hc]
      exact hs
theorem drop_getD (a : List Int) (n m i : Nat) : ((a.drop n).take m).getD i 0 = if i < m then a.getD (n + i) 0 else 0 := by
  simp only [List.getD_eq_getElem?_getD, List.getElem?_take, List.getElem?_drop]
  split <;> rfl
theorem rowIn_B {a : List Int} (b s : Int) (ha : ∀ i, inI64 (a.getD i 0)) : rowB (rowIn a b s) := by
  unfold rowIn
  split
  · refine rowFrom_B _ fun i => ?_
    rw [drop_getD]
    split
    · exact ha _
    · simp [inI64]
  · exact row0_B
theorem l8Raw_ok (W0 : World) (v : AV) (a : List Int) (b s : Int) (H : AH) (ha : SlR W0 H v a) (hl : a.length = 71) (h0 : 0 ≤ slotBase b s) : ACalls Tryz.prog W0 121 [v, .v (.int .i64 b), .v (.int .i64 s)] H (fun u H' => SlR W0 H u ((a.drop (slotBase b s).toNat).take 8) ∧ H' = H) := by
  refine acallw Tryz.func121 rfl (by kernel_rfl) (by kernel_rfl) fun hc hw => ?_
  have hb := slotBase_bd.1 h0
  have h8 : (slotBase b s + 8).toNat - (slotBase b s).toNat = 8 := by omega
  repeat' (first | simp -implicitDefEqProofs only [go_sem] | refine acond_dec (fun _ => ?_) (fun _ => ?_) | refine acond_ndec (fun _ => ?_) (fun _ => ?_) | refine agrd_dec (fun _ => ?_) (fun _ => ?_) | refine agrd_decf (fun _ => ?_) (fun _ => ?_) | refine agrd_ndec (fun _ => ?_) (fun _ => ?_) | refine agrd_ndecf (fun _ => ?_) (fun _ => ?_) | refine abi_len_sl' (by assumption) ?_ | refine aixs_sln (by assumption) ?_ | refine afa_sl (by assumption) ?_ | (refine aK_sl (by assumption) (by omega) ?_; first | rintro _ ⟨rfl, _⟩ | (intro _ hx; obtain ⟨_, rfl, _, _⟩ := EvD.out hx) | (intro _ hx; obtain ⟨_, _, rfl, _, _, _⟩ := JobD.out hx) | rintro _ ⟨_, rfl, _⟩) | rw [SlR.one (by assumption)] | rw [SlR.leaf (by assumption)] | simp -implicitDefEqProofs (disch := omega) only [wrap_in, u8_small, Int.tmod_eq_emod_of_nonneg, Int.tdiv_eq_ediv_of_nonneg] | refine aK_sub (by assumption) ?_ | refine aix_strn (fun _ _ => ?_) | ((with_reducible refine adraw_seq ?_ ?_ ?_); (· kernel_rfl); (· decide +kernel)) | refine ACallK.eq (SlotBase_spec _ _ _ _) ?_ | (refine asl_sl ha ?_) | (refine aslE_sl ha (fun hv2 => ?_)) | simp -implicitDefEqProofs only [go_sem, slCells_own, aapp_own] | refine And.intro (by omega) (And.intro (by omega) ?_) | refine acond_split (fun _ => ?_) (fun _ => ?_) | refine agrd_bt (fun _ => ?_) (fun _ => ?_) | refine agrd_bf (fun _ => ?_) (fun _ => ?_) | refine retK_eq ?_ | refine retK_back (by assumption) ?_ | refine retK_eq2 ?_ | refine retK_back2 (by assumption) ?_)
  rw [h8] at hv2
  exact retK_one ⟨hv2, rfl⟩
theorem RowIn_spec (W0 : World) (v : AV) (a : List Int) (b s : Int) (H : AH) (ha : SlR W0 H v a) : ACalls Tryz.prog W0 41 [v, .v (.int .i64 b), .v (.int .i64 s)] H (fun u H' => u = .agg (rowCells (rowIn a b s)) ∧ H' = H) := by
  refine acallw Tryz.func41 rfl (by kernel_rfl) (by kernel_rfl) fun hc hw => ?_
  by_cases hb : cellsOk a = true ∧ 0 ≤ slotBase b s
  · have hl := cellsOk_len hb.1
    have hs := slotBase_bd.1 hb.2
    have hk := keyCell_in hs.2.1
    have hi : (keyCell s).toNat < a.length := by omega
    have hri : rowIn a b s = rowFrom a[(keyCell s).toNat] ((a.drop (slotBase b s).toNat).take 8) := by rw [rowIn, if_pos hb, get_getD hi]
    have hin : inI64 a[(keyCell s).toNat] := by rw [get_getD hi]; exact getD_I ha _
    repeat' (first | simp -implicitDefEqProofs only [go_sem] | refine ACallK.eq (CellsOk_spec _ _ a _ (SlR.sub' ha)) ?_ | (rw [hb.1]) | refine ACallK.eq (SlotBase_spec _ _ _ _) ?_ | refine ACallK.eq (KeyCell_spec _ _ _) ?_ | (refine aixs_sl ha ?_) | (refine ACallK.of (l8Raw_ok _ _ a _ _ _ (SlR.sub' ha) hl hb.2) ?_; rintro v2 _ ⟨hv2, rfl⟩) | refine ACallK.eq (RowFrom_spec _ _ _ _ _ (by assumption) (by first | assumption | exact SlR.sub' (by assumption))) ?_ | refine acond_decF (by omega) ?_ | refine acond_decT (by omega) ?_ | refine acond_ndecF (by omega) ?_ | refine acond_ndecT (by omega) ?_ | refine acond_dec (fun _ => ?_) (fun _ => ?_) | refine acond_ndec (fun _ => ?_) (fun _ => ?_) | refine agrd_dec (fun _ => ?_) (fun _ => ?_) | refine agrd_decf (fun _ => ?_) (fun _ => ?_) | refine agrd_ndec (fun _ => ?_) (fun _ => ?_) | refine agrd_ndecf (fun _ => ?_) (fun _ => ?_) | refine abi_len_sl' (by assumption) ?_ | refine aixs_sln (by assumption) ?_ | refine afa_sl (by assumption) ?_ | (refine aK_sl (by assumption) (by omega) ?_; first | rintro _ ⟨rfl, _⟩ | (intro _ hx; obtain ⟨_, rfl, _, _⟩ := EvD.out hx) | (intro _ hx; obtain ⟨_, _, rfl, _, _, _⟩ := JobD.out hx) | rintro _ ⟨_, rfl, _⟩) | rw [SlR.one (by assumption)] | rw [SlR.leaf (by assumption)] | simp -implicitDefEqProofs (disch := omega) only [wrap_in, u8_small, Int.tmod_eq_emod_of_nonneg, Int.tdiv_eq_ediv_of_nonneg] | refine aK_sub (by assumption) ?_ | refine aix_strn (fun _ _ => ?_) | ((with_reducible refine adraw_seq ?_ ?_ ?_); (· kernel_rfl); (· decide +kernel)) | simp -implicitDefEqProofs only [go_sem, slCells_own, aapp_own] | (with_reducible refine And.intro (by omega) ?_) | ((with_reducible refine adraw_plan [(0, []), (1, []), (5, []), (6, []), (7, []), (2, [0, 5, 6, 7]), (3, []), (4, []), (8, [0, 3, 4]), (9, []), (10, [])] ?_ ?_ ?_); (· kernel_rfl); (· decide +kernel)) | refine And.intro (by omega) (And.intro (by omega) ?_) | refine acond_split (fun _ => ?_) (fun _ => ?_) | refine agrd_bt (fun _ => ?_) (fun _ => ?_) | refine agrd_bf (fun _ => ?_) (fun _ => ?_) | refine retK_eq ?_ | refine retK_back (by assumption) ?_ | refine retK_eq2 ?_ | refine retK_back2 (by assumption) ?_ | (with_reducible refine And.intro ?_ ?_))
    all_goals first
      | (rw [hri]; done)
      | (exfalso; omega)
      | trace_state
  · rw [rowIn_bad (by by_cases h : cellsOk a = true; (have hq : ¬ 0 ≤ slotBase b s := fun k => hb ⟨h, k⟩); exact .inr (by omega); exact .inl (by simpa using h))]
    cases h : cellsOk a with
    | true =>
      have hneg : slotBase b s < 0 := by
        by_cases k : 0 ≤ slotBase b s
        · exact absurd ⟨h, k⟩ hb
        · omega
      repeat' (first | simp -implicitDefEqProofs only [go_sem] | refine ACallK.eq (CellsOk_spec _ _ a _ (SlR.sub' ha)) ?_ | (rw [h]) | refine ACallK.eq (SlotBase_spec _ _ _ _) ?_ | (simp only [hneg, decide_true]) | refine acond_decF (by omega) ?_ | refine acond_decT (by omega) ?_ | refine acond_ndecF (by omega) ?_ | refine acond_ndecT (by omega) ?_ | refine acond_dec (fun _ => ?_) (fun _ => ?_) | refine acond_ndec (fun _ => ?_) (fun _ => ?_) | refine agrd_dec (fun _ => ?_) (fun _ => ?_) | refine agrd_decf (fun _ => ?_) (fun _ => ?_) | refine agrd_ndec (fun _ => ?_) (fun _ => ?_) | refine agrd_ndecf (fun _ => ?_) (fun _ => ?_) | refine abi_len_sl' (by assumption) ?_ | refine aixs_sln (by assumption) ?_ | refine afa_sl (by assumption) ?_ | (refine aK_sl (by assumption) (by omega) ?_; first | rintro _ ⟨rfl, _⟩ | (intro _ hx; obtain ⟨_, rfl, _, _⟩ := EvD.out hx) | (intro _ hx; obtain ⟨_, _, rfl, _, _, _⟩ := JobD.out hx) | rintro _ ⟨_, rfl, _⟩) | rw [SlR.one (by assumption)] | rw [SlR.leaf (by assumption)] | simp -implicitDefEqProofs (disch := omega) only [wrap_in, u8_small, Int.tmod_eq_emod_of_nonneg, Int.tdiv_eq_ediv_of_nonneg] | refine aK_sub (by assumption) ?_ | refine aix_strn (fun _ _ => ?_) | ((with_reducible refine adraw_seq ?_ ?_ ?_); (· kernel_rfl); (· decide +kernel)) | simp -implicitDefEqProofs only [go_sem, slCells_own, aapp_own] | (with_reducible refine And.intro (by omega) ?_) | ((with_reducible refine adraw_plan [(0, []), (1, []), (5, []), (6, []), (7, []), (2, [0, 5, 6, 7]), (3, []), (4, []), (8, [0, 3, 4]), (9, []), (10, [])] ?_ ?_ ?_); (· kernel_rfl); (· decide +kernel)) | refine And.intro (by omega) (And.intro (by omega) ?_) | refine acond_split (fun _ => ?_) (fun _ => ?_) | refine agrd_bt (fun _ => ?_) (fun _ => ?_) | refine agrd_bf (fun _ => ?_) (fun _ => ?_) | refine retK_eq ?_ | refine retK_back (by assumption) ?_ | refine retK_eq2 ?_ | refine retK_back2 (by assumption) ?_ | (with_reducible refine And.intro ?_ ?_))
      all_goals first | rfl | (exfalso; omega) | trace_state
    | false =>
      repeat' (first | simp -implicitDefEqProofs only [go_sem] | refine ACallK.eq (CellsOk_spec _ _ a _ (SlR.sub' ha)) ?_ | (rw [h]) | refine ACallK.eq (SlotBase_spec _ _ _ _) ?_ | refine acond_decF (by omega) ?_ | refine acond_decT (by omega) ?_ | refine acond_ndecF (by omega) ?_ | refine acond_ndecT (by omega) ?_ | refine acond_dec (fun _ => ?_) (fun _ => ?_) | refine acond_ndec (fun _ => ?_) (fun _ => ?_) | refine agrd_dec (fun _ => ?_) (fun _ => ?_) | refine agrd_decf (fun _ => ?_) (fun _ => ?_) | refine agrd_ndec (fun _ => ?_) (fun _ => ?_) | refine agrd_ndecf (fun _ => ?_) (fun _ => ?_) | refine abi_len_sl' (by assumption) ?_ | refine aixs_sln (by assumption) ?_ | refine afa_sl (by assumption) ?_ | (refine aK_sl (by assumption) (by omega) ?_; first | rintro _ ⟨rfl, _⟩ | (intro _ hx; obtain ⟨_, rfl, _, _⟩ := EvD.out hx) | (intro _ hx; obtain ⟨_, _, rfl, _, _, _⟩ := JobD.out hx) | rintro _ ⟨_, rfl, _⟩) | rw [SlR.one (by assumption)] | rw [SlR.leaf (by assumption)] | simp -implicitDefEqProofs (disch := omega) only [wrap_in, u8_small, Int.tmod_eq_emod_of_nonneg, Int.tdiv_eq_ediv_of_nonneg] | refine aK_sub (by assumption) ?_ | refine aix_strn (fun _ _ => ?_) | ((with_reducible refine adraw_seq ?_ ?_ ?_); (· kernel_rfl); (· decide +kernel)) | simp -implicitDefEqProofs only [go_sem, slCells_own, aapp_own] | (with_reducible refine And.intro (by omega) ?_) | ((with_reducible refine adraw_plan [(0, []), (1, []), (5, []), (6, []), (7, []), (2, [0, 5, 6, 7]), (3, []), (4, []), (8, [0, 3, 4]), (9, []), (10, [])] ?_ ?_ ?_); (· kernel_rfl); (· decide +kernel)) | refine And.intro (by omega) (And.intro (by omega) ?_) | refine acond_split (fun _ => ?_) (fun _ => ?_) | refine agrd_bt (fun _ => ?_) (fun _ => ?_) | refine agrd_bf (fun _ => ?_) (fun _ => ?_) | refine retK_eq ?_ | refine retK_back (by assumption) ?_ | refine retK_eq2 ?_ | refine retK_back2 (by assumption) ?_ | (with_reducible refine And.intro ?_ ?_))
      all_goals first | rfl | (exfalso; omega) | trace_state
theorem RowIn_impl (W0 : World) (v : AV) (a : List Int) (b s : Int) (H : AH) (ha : SlR W0 H v a) : ACalls Tryz.prog W0 40 [v, .v (.int .i64 b), .v (.int .i64 s)] H (fun u H' => u = .agg (rowCells (rowIn a b s)) ∧ H' = H) := by
  refine acallw Tryz.func40 rfl (by kernel_rfl) (by kernel_rfl) fun hc hw => ?_
  by_cases hb : cellsOk a = true ∧ 0 ≤ slotBase b s
  · have hl := cellsOk_len hb.1
    have hs := slotBase_bd.1 hb.2
    have hk := keyCell_in hs.2.1
    have hi : (keyCell s).toNat < a.length := by omega
    have h8 : (slotBase b s + 8).toNat - (slotBase b s).toNat = 8 := by omega
    have hri : rowIn a b s = rowFrom a[(keyCell s).toNat] ((a.drop (slotBase b s).toNat).take 8) := by rw [rowIn, if_pos hb, get_getD hi]
    have hin : inI64 a[(keyCell s).toNat] := by rw [get_getD hi]; exact getD_I ha _
    repeat' (first | simp -implicitDefEqProofs only [go_sem] | refine ACallK.eq (CellsOk_impl _ _ a _ (SlR.sub' ha)) ?_ | (rw [hb.1]) | refine ACallK.eq (SlotBase_impl _ _ _ _) ?_ | refine ACallK.eq (KeyCell_impl _ _ _) ?_ | (refine aixs_sl ha ?_) | (refine asl_sl ha ?_) | (refine aslE_sl ha (fun hv2 => ?_); rw [h8] at hv2) | refine ACallK.eq (RowFrom_impl _ _ _ _ _ (by assumption) (by first | assumption | exact SlR.sub' (by assumption))) ?_ | refine acond_decF (by omega) ?_ | refine acond_decT (by omega) ?_ | refine acond_ndecF (by omega) ?_ | refine acond_ndecT (by omega) ?_ | refine acond_dec (fun _ => ?_) (fun _ => ?_) | refine acond_ndec (fun _ => ?_) (fun _ => ?_) | refine agrd_dec (fun _ => ?_) (fun _ => ?_) | refine agrd_decf (fun _ => ?_) (fun _ => ?_) | refine agrd_ndec (fun _ => ?_) (fun _ => ?_) | refine agrd_ndecf (fun _ => ?_) (fun _ => ?_) | refine abi_len_sl' (by assumption) ?_ | refine aixs_sln (by assumption) ?_ | refine afa_sl (by assumption) ?_ | (refine aK_sl (by assumption) (by omega) ?_; first | rintro _ ⟨rfl, _⟩ | (intro _ hx; obtain ⟨_, rfl, _, _⟩ := EvD.out hx) | (intro _ hx; obtain ⟨_, _, rfl, _, _, _⟩ := JobD.out hx) | rintro _ ⟨_, rfl, _⟩) | rw [SlR.one (by assumption)] | rw [SlR.leaf (by assumption)] | simp -implicitDefEqProofs (disch := omega) only [wrap_in, u8_small, Int.tmod_eq_emod_of_nonneg, Int.tdiv_eq_ediv_of_nonneg] | refine aK_sub (by assumption) ?_ | refine aix_strn (fun _ _ => ?_) | ((with_reducible refine adraw_seq ?_ ?_ ?_); (· kernel_rfl); (· decide +kernel)) | simp -implicitDefEqProofs only [go_sem, slCells_own, aapp_own] | (with_reducible refine And.intro (by omega) ?_) | ((with_reducible refine adraw_plan [(0, []), (1, []), (5, []), (6, []), (7, []), (8, []), (9, []), (2, [0, 5, 6, 7, 8, 9]), (3, []), (4, []), (10, []), (11, [])] ?_ ?_ ?_); (· kernel_rfl); (· decide +kernel)) | refine And.intro (by omega) (And.intro (by omega) ?_) | refine acond_split (fun _ => ?_) (fun _ => ?_) | refine agrd_bt (fun _ => ?_) (fun _ => ?_) | refine agrd_bf (fun _ => ?_) (fun _ => ?_) | refine retK_eq ?_ | refine retK_back (by assumption) ?_ | refine retK_eq2 ?_ | refine retK_back2 (by assumption) ?_ | (with_reducible refine And.intro ?_ ?_))
    all_goals first
      | (rw [hri]; done)
      | (exfalso; omega)
      | trace_state
  · rw [rowIn_bad (by by_cases h : cellsOk a = true; (have hq : ¬ 0 ≤ slotBase b s := fun k => hb ⟨h, k⟩); exact .inr (by omega); exact .inl (by simpa using h))]
    cases h : cellsOk a with
    | true =>
      have hneg : slotBase b s < 0 := by
        by_cases k : 0 ≤ slotBase b s
        · exact absurd ⟨h, k⟩ hb
        · omega
      repeat' (first | simp -implicitDefEqProofs only [go_sem] | refine ACallK.eq (CellsOk_impl _ _ a _ (SlR.sub' ha)) ?_ | (rw [h]) | refine ACallK.eq (SlotBase_impl _ _ _ _) ?_ | (simp only [hneg, decide_true]) | refine acond_decF (by omega) ?_ | refine acond_decT (by omega) ?_ | refine acond_ndecF (by omega) ?_ | refine acond_ndecT (by omega) ?_ | refine acond_dec (fun _ => ?_) (fun _ => ?_) | refine acond_ndec (fun _ => ?_) (fun _ => ?_) | refine agrd_dec (fun _ => ?_) (fun _ => ?_) | refine agrd_decf (fun _ => ?_) (fun _ => ?_) | refine agrd_ndec (fun _ => ?_) (fun _ => ?_) | refine agrd_ndecf (fun _ => ?_) (fun _ => ?_) | refine abi_len_sl' (by assumption) ?_ | refine aixs_sln (by assumption) ?_ | refine afa_sl (by assumption) ?_ | (refine aK_sl (by assumption) (by omega) ?_; first | rintro _ ⟨rfl, _⟩ | (intro _ hx; obtain ⟨_, rfl, _, _⟩ := EvD.out hx) | (intro _ hx; obtain ⟨_, _, rfl, _, _, _⟩ := JobD.out hx) | rintro _ ⟨_, rfl, _⟩) | rw [SlR.one (by assumption)] | rw [SlR.leaf (by assumption)] | simp -implicitDefEqProofs (disch := omega) only [wrap_in, u8_small, Int.tmod_eq_emod_of_nonneg, Int.tdiv_eq_ediv_of_nonneg] | refine aK_sub (by assumption) ?_ | refine aix_strn (fun _ _ => ?_) | ((with_reducible refine adraw_seq ?_ ?_ ?_); (· kernel_rfl); (· decide +kernel)) | simp -implicitDefEqProofs only [go_sem, slCells_own, aapp_own] | (with_reducible refine And.intro (by omega) ?_) | ((with_reducible refine adraw_plan [(0, []), (1, []), (5, []), (6, []), (7, []), (8, []), (9, []), (2, [0, 5, 6, 7, 8, 9]), (3, []), (4, []), (10, []), (11, [])] ?_ ?_ ?_); (· kernel_rfl); (· decide +kernel)) | refine And.intro (by omega) (And.intro (by omega) ?_) | refine acond_split (fun _ => ?_) (fun _ => ?_) | refine agrd_bt (fun _ => ?_) (fun _ => ?_) | refine agrd_bf (fun _ => ?_) (fun _ => ?_) | refine retK_eq ?_ | refine retK_back (by assumption) ?_ | refine retK_eq2 ?_ | refine retK_back2 (by assumption) ?_ | (with_reducible refine And.intro ?_ ?_))
      all_goals first | rfl | (exfalso; omega) | trace_state
    | false =>
      repeat' (first | simp -implicitDefEqProofs only [go_sem] | refine ACallK.eq (CellsOk_impl _ _ a _ (SlR.sub' ha)) ?_ | (rw [h]) | refine ACallK.eq (SlotBase_impl _ _ _ _) ?_ | refine acond_decF (by omega) ?_ | refine acond_decT (by omega) ?_ | refine acond_ndecF (by omega) ?_ | refine acond_ndecT (by omega) ?_ | refine acond_dec (fun _ => ?_) (fun _ => ?_) | refine acond_ndec (fun _ => ?_) (fun _ => ?_) | refine agrd_dec (fun _ => ?_) (fun _ => ?_) | refine agrd_decf (fun _ => ?_) (fun _ => ?_) | refine agrd_ndec (fun _ => ?_) (fun _ => ?_) | refine agrd_ndecf (fun _ => ?_) (fun _ => ?_) | refine abi_len_sl' (by assumption) ?_ | refine aixs_sln (by assumption) ?_ | refine afa_sl (by assumption) ?_ | (refine aK_sl (by assumption) (by omega) ?_; first | rintro _ ⟨rfl, _⟩ | (intro _ hx; obtain ⟨_, rfl, _, _⟩ := EvD.out hx) | (intro _ hx; obtain ⟨_, _, rfl, _, _, _⟩ := JobD.out hx) | rintro _ ⟨_, rfl, _⟩) | rw [SlR.one (by assumption)] | rw [SlR.leaf (by assumption)] | simp -implicitDefEqProofs (disch := omega) only [wrap_in, u8_small, Int.tmod_eq_emod_of_nonneg, Int.tdiv_eq_ediv_of_nonneg] | refine aK_sub (by assumption) ?_ | refine aix_strn (fun _ _ => ?_) | ((with_reducible refine adraw_seq ?_ ?_ ?_); (· kernel_rfl); (· decide +kernel)) | simp -implicitDefEqProofs only [go_sem, slCells_own, aapp_own] | (with_reducible refine And.intro (by omega) ?_) | ((with_reducible refine adraw_plan [(0, []), (1, []), (5, []), (6, []), (7, []), (8, []), (9, []), (2, [0, 5, 6, 7, 8, 9]), (3, []), (4, []), (10, []), (11, [])] ?_ ?_ ?_); (· kernel_rfl); (· decide +kernel)) | refine And.intro (by omega) (And.intro (by omega) ?_) | refine acond_split (fun _ => ?_) (fun _ => ?_) | refine agrd_bt (fun _ => ?_) (fun _ => ?_) | refine agrd_bf (fun _ => ?_) (fun _ => ?_) | refine retK_eq ?_ | refine retK_back (by assumption) ?_ | refine retK_eq2 ?_ | refine retK_back2 (by assumption) ?_ | (with_reducible refine And.intro ?_ ?_))
      all_goals first | rfl | (exfalso; omega) | trace_state
end Go.Proofs.YtipfnhfcoolhaaaGreat.Aw
