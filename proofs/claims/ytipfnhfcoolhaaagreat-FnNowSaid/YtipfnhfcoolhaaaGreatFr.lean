/- Rows out of cells: both packages. -/
import Derived.Test.YtipfnhfcoolhaaaGreatFo
import Derived.Test.YtipfnhfcoolhaaaGreatBC
namespace Go.Proofs.YtipfnhfcoolhaaaGreat.Aw
open Go Go.RowKit
set_option linter.unusedVariables false
set_option linter.unusedSimpArgs false
set_option maxRecDepth 100000
set_option maxHeartbeats 2000000
theorem wrap_mod48 (n : Int) : (IntKind.i64.wrap n) % 281474976710656 = n % 281474976710656 := by
  simp [IntKind.wrap, IntKind.bits, IntKind.signed]; omega
theorem wrap_I (n : Int) : inI64 (IntKind.i64.wrap n) := by
  simp [IntKind.wrap, IntKind.bits, IntKind.signed, inI64]; omega
theorem getD_I {W0 : World} {H : AH} {v : AV} {xs : List Int} (h : SlR W0 H v xs) (i : Nat) : inI64 (xs.getD i 0) := by
  rw [List.getD_eq_getElem?_getD]
  by_cases hi : i < xs.length
  · rw [List.getElem?_eq_getElem hi]
    obtain ⟨cs, _, _, hx⟩ := h.rd i hi
    exact hx
  · rw [List.getElem?_eq_none (by omega)]; simp [inI64]
theorem get_getD {xs : List Int} {i : Nat} (hi : i < xs.length) : xs[i] = xs.getD i 0 := by rw [List.getD_eq_getElem?_getD, List.getElem?_eq_getElem hi]; rfl
def sumTo (raw : List Int) : Nat → Int
  | 0 => 0
  | i + 1 => (sumTo raw i + raw.getD i 0 % 281474976710656) % 281474976710656
theorem sumTo_bd (raw : List Int) (i : Nat) : 0 ≤ sumTo raw i ∧ sumTo raw i < 281474976710656 := by
  cases i with
  | zero => simp [sumTo]
  | succ i => simp only [sumTo]; omega
theorem sumTo_two (raw : List Int) : sumTo raw 2 = (raw.getD 0 0 + raw.getD 1 0) % 281474976710656 := by simp only [sumTo]; omega
def sumI (raw : List Int) : Nat → Int
  | 0 => 0
  | i + 1 => IntKind.i64.wrap (sumI raw i + raw.getD i 0)
theorem sumI_two (raw : List Int) : inI64 (sumI raw 2) ∧ sumI raw 2 % 281474976710656 = (raw.getD 0 0 + raw.getD 1 0) % 281474976710656 := by
  refine ⟨wrap_I _, ?_⟩
  simp only [sumI]
  rw [wrap_mod48]
  have h1 := wrap_mod48 (0 + raw.getD 0 0)
  omega
theorem tmod48 (n : Int) : -281474976710656 < n.tmod 281474976710656 ∧ n.tmod 281474976710656 < 281474976710656 ∧ (n.tmod 281474976710656) % 281474976710656 = n % 281474976710656 := by
  by_cases h : 0 ≤ n
  · rw [Int.tmod_eq_emod_of_nonneg h]; omega
  · obtain ⟨m, rfl⟩ : ∃ m, n = -m := ⟨-n, by omega⟩
    rw [Int.neg_tmod, Int.tmod_eq_emod_of_nonneg (by omega)]; omega
def rowK (tag : Int) : RowD := { row0 with key := (untag tag).1, kind := (untag tag).2 }
theorem rowK_B (tag : Int) : rowB (rowK tag) := by
  have h1 := untag_kind tag
  have h2 := untag_size tag
  refine ⟨by show (untag tag).1.size ≤ big; simp only [big]; omega, by show inI64 (untag tag).2; simp only [inI64]; omega, ?_, ?_, ?_, ?_, ?_, ?_, ?_⟩ <;> simp [rowK, row0, inI64]
theorem samples_B (raw : List Int) {r : RowD} (h : rowB r) : ∀ k, rowB (samples raw k r)
  | 0 => h
  | k + 1 => sampled_B (samples_B raw h k) _
theorem rowFrom_none {tag : Int} {raw : List Int} (h : (untag tag).2 = 0 ∨ ¬ (raw.length : Int) = 8) : rowFrom tag raw = row0 := by rw [rowFrom, if_pos h]
theorem rowFrom_cnt {tag : Int} {raw : List Int} (h : (raw.length : Int) = 8) (hk : (untag tag).2 = 1) : rowFrom tag raw = { rowK tag with sum := (raw.getD 0 0 + raw.getD 1 0) % 281474976710656 } := by
  rw [rowFrom, if_neg (by omega), if_pos hk]; rfl
theorem rowFrom_gau {tag : Int} {raw : List Int} (h : (raw.length : Int) = 8) (hk : (untag tag).2 = 2) : rowFrom tag raw = { rowK tag with set := decide (0 < (unpackGauge (raw.getD 3 0)).1), last := (unpackGauge (raw.getD 3 0)).2 } := by
  rw [rowFrom, if_neg (by omega), if_neg (by omega), if_pos hk]; rfl
theorem rowFrom_tim {tag : Int} {raw : List Int} (h : (raw.length : Int) = 8) (hk : (untag tag).2 = 3) : rowFrom tag raw = timerRow raw (rowK tag) := by
  rw [rowFrom, if_neg (by omega), if_neg (by omega), if_neg (by omega)]; rfl
theorem timerRow_hit {raw : List Int} {r : RowD} {k : Nat} (hk : k = min 3 (raw.getD 4 0).toNat) (h1 : (samples raw k r).n = 3) (h2 : 3 < raw.getD 4 0) : timerRow raw r = { samples raw k r with dropped := if 65535 < raw.getD 4 0 - 3 then 65535 else raw.getD 4 0 - 3 } := by
  subst hk; simp only [timerRow]; rw [if_pos ⟨h1, h2⟩]
theorem timerRow_miss {raw : List Int} {r : RowD} {k : Nat} (hk : k = min 3 (raw.getD 4 0).toNat) (h : ¬ ((samples raw k r).n = 3 ∧ 3 < raw.getD 4 0)) : timerRow raw r = samples raw k r := by
  subst hk; simp only [timerRow]; rw [if_neg h]
theorem RowFrom_spec (W0 : World) (tag : Int) (v : AV) (raw : List Int) (H : AH) (ht : inI64 tag) (ha : SlR W0 H v raw) : ACalls Tryz.prog W0 120 [.v (.int .i64 tag), v] H (fun u H' => u = .agg (rowCells (rowFrom tag raw)) ∧ H' = H) := by
  refine acallw Tryz.func120 rfl (by kernel_rfl) (by kernel_rfl) fun hc hw => ?_
  have hk := untag_kind tag
  have hz := untag_size tag
  have hg := fun i => getD_I ha i
  by_cases hb : (untag tag).2 = 0 ∨ ¬ (raw.length : Int) = 8
  · rw [rowFrom_none hb]
    repeat' (first | simp -implicitDefEqProofs only [go_sem] | refine acond_dec (fun _ => ?_) (fun _ => ?_) | refine acond_ndec (fun _ => ?_) (fun _ => ?_) | refine agrd_dec (fun _ => ?_) (fun _ => ?_) | refine agrd_decf (fun _ => ?_) (fun _ => ?_) | refine agrd_ndec (fun _ => ?_) (fun _ => ?_) | refine agrd_ndecf (fun _ => ?_) (fun _ => ?_) | refine abi_len_sl' (by assumption) ?_ | refine aixs_sln (by assumption) ?_ | refine afa_sl (by assumption) ?_ | (refine aK_sl (by assumption) (by omega) ?_; first | rintro _ ⟨rfl, _⟩ | (intro _ hx; obtain ⟨_, rfl, _, _⟩ := EvD.out hx) | (intro _ hx; obtain ⟨_, _, rfl, _, _, _⟩ := JobD.out hx) | rintro _ ⟨_, rfl, _⟩) | rw [SlR.one (by assumption)] | rw [SlR.leaf (by assumption)] | simp -implicitDefEqProofs (disch := omega) only [wrap_in, u8_small, Int.tmod_eq_emod_of_nonneg, Int.tdiv_eq_ediv_of_nonneg] | refine aK_sub (by assumption) ?_ | refine aix_strn (fun _ _ => ?_) | ((with_reducible refine adraw_seq ?_ ?_ ?_); (· kernel_rfl); (· decide +kernel)) | refine ACallK.eq (Untag_spec _ _ _ (by assumption)) ?_ | (exfalso; omega) | simp -implicitDefEqProofs only [go_sem, slCells_own, aapp_own] | ((with_reducible refine adraw_plan [(0, []), (1, []), (2, []), (3, []), (4, []), (5, []), (6, [0, 1]), (7, []), (8, []), (9, []), (10, [])] ?_ ?_ ?_); (· kernel_rfl); (· decide +kernel)) | refine And.intro (by omega) (And.intro (by omega) ?_) | refine acond_split (fun _ => ?_) (fun _ => ?_) | refine agrd_bt (fun _ => ?_) (fun _ => ?_) | refine agrd_bf (fun _ => ?_) (fun _ => ?_) | refine retK_eq ?_ | refine retK_back (by assumption) ?_ | refine retK_eq2 ?_ | refine retK_back2 (by assumption) ?_)
    all_goals first | rfl | (exfalso; omega)
  have hl : raw.length = 8 := by omega
  have h3 : (untag tag).2 = 1 ∨ (untag tag).2 = 2 ∨ (untag tag).2 = 3 := by omega
  rcases h3 with h3 | h3 | h3
  · rw [rowFrom_cnt (by omega) h3]
    repeat' (first | simp -implicitDefEqProofs only [go_sem] | refine ACallK.eq (Untag_spec _ _ _ (by assumption)) ?_ | rw [h3] | refine acond_decF (by omega) ?_ | refine acond_decT (by omega) ?_ | refine acond_ndecF (by omega) ?_ | refine acond_ndecT (by omega) ?_ | refine acond_dec (fun _ => ?_) (fun _ => ?_) | refine acond_ndec (fun _ => ?_) (fun _ => ?_) | refine agrd_dec (fun _ => ?_) (fun _ => ?_) | refine agrd_decf (fun _ => ?_) (fun _ => ?_) | refine agrd_ndec (fun _ => ?_) (fun _ => ?_) | refine agrd_ndecf (fun _ => ?_) (fun _ => ?_) | refine abi_len_sl' (by assumption) ?_ | refine aixs_sln (by assumption) ?_ | refine afa_sl (by assumption) ?_ | (refine aK_sl (by assumption) (by omega) ?_; first | rintro _ ⟨rfl, _⟩ | (intro _ hx; obtain ⟨_, rfl, _, _⟩ := EvD.out hx) | (intro _ hx; obtain ⟨_, _, rfl, _, _, _⟩ := JobD.out hx) | rintro _ ⟨_, rfl, _⟩) | rw [SlR.one (by assumption)] | rw [SlR.leaf (by assumption)] | simp -implicitDefEqProofs (disch := omega) only [wrap_in, u8_small, Int.tmod_eq_emod_of_nonneg, Int.tdiv_eq_ediv_of_nonneg] | refine aK_sub (by assumption) ?_ | refine aix_strn (fun _ _ => ?_) | ((with_reducible refine adraw_seq ?_ ?_ ?_); (· kernel_rfl); (· decide +kernel)) | simp -implicitDefEqProofs only [go_sem, slCells_own, aapp_own] | (with_reducible refine And.intro (by omega) ?_) | ((with_reducible refine adraw_plan [(0, []), (1, []), (2, []), (3, []), (4, []), (5, []), (6, [0, 1]), (7, []), (8, []), (9, []), (10, [])] ?_ ?_ ?_); (· kernel_rfl); (· decide +kernel)) | refine And.intro (by omega) (And.intro (by omega) ?_) | refine acond_split (fun _ => ?_) (fun _ => ?_) | refine agrd_bt (fun _ => ?_) (fun _ => ?_) | refine agrd_bf (fun _ => ?_) (fun _ => ?_) | refine retK_eq ?_ | refine retK_back (by assumption) ?_ | refine retK_eq2 ?_ | refine retK_back2 (by assumption) ?_ | (with_reducible refine And.intro ?_ ?_))
    refine acode_while (fun i : Nat => [(1, v), (4, .ptr H.nxt 0), (7, .ptr (H.nxt + 1) 0), (8, .v (.int .i64 i))]) (fun i H' => i ≤ 2 ∧ H' = (H.new (rowCells row0) 10).new (rowCells { rowK tag with sum := sumTo raw i }) 10) (fun i => 2 - i) 0 ⟨by omega, by simp [rowCells, rowK, row0, sumTo, h3]⟩ ?_
    rintro i _ ⟨hi, rfl⟩
    have hS := sumTo_bd raw i
    repeat' (first | simp -implicitDefEqProofs only [go_sem] | refine acond_dec (fun _ => ?_) (fun _ => ?_) | refine acond_ndec (fun _ => ?_) (fun _ => ?_) | refine agrd_dec (fun _ => ?_) (fun _ => ?_) | refine agrd_decf (fun _ => ?_) (fun _ => ?_) | refine agrd_ndec (fun _ => ?_) (fun _ => ?_) | refine agrd_ndecf (fun _ => ?_) (fun _ => ?_) | refine abi_len_sl' (by assumption) ?_ | refine aixs_sln (by assumption) ?_ | refine afa_sl (by assumption) ?_ | (refine aK_sl (by assumption) (by omega) ?_; first | rintro _ ⟨rfl, _⟩ | (intro _ hx; obtain ⟨_, rfl, _, _⟩ := EvD.out hx) | (intro _ hx; obtain ⟨_, _, rfl, _, _, _⟩ := JobD.out hx) | rintro _ ⟨_, rfl, _⟩) | rw [SlR.one (by assumption)] | rw [SlR.leaf (by assumption)] | simp -implicitDefEqProofs (disch := omega) only [wrap_in, u8_small, Int.tmod_eq_emod_of_nonneg, Int.tdiv_eq_ediv_of_nonneg] | refine aK_sub (by assumption) ?_ | refine aix_strn (fun _ _ => ?_) | ((with_reducible refine adraw_seq ?_ ?_ ?_); (· kernel_rfl); (· decide +kernel)) | refine ACallK.eq (l2Mod_ok _ _ _ (by first | assumption | (simp only [inI64]; omega))) ?_ | simp -implicitDefEqProofs only [go_sem, slCells_own, aapp_own] | ((with_reducible refine adraw_plan [(0, []), (1, []), (2, []), (3, []), (4, []), (5, []), (6, [0, 1]), (7, []), (8, []), (9, []), (10, [])] ?_ ?_ ?_); (· kernel_rfl); (· decide +kernel)) | refine And.intro (by omega) (And.intro (by omega) ?_) | refine acond_split (fun _ => ?_) (fun _ => ?_) | refine agrd_bt (fun _ => ?_) (fun _ => ?_) | refine agrd_bf (fun _ => ?_) (fun _ => ?_) | refine retK_eq ?_ | refine retK_back (by assumption) ?_ | refine retK_eq2 ?_ | refine retK_back2 (by assumption) ?_)
    · refine back (i + 1) ⟨by omega, ?_⟩
      simp only [rowCells, sumTo]
      rw [get_getD (by omega)]
    · have : i = 2 := by omega
      subst this
      rw [sumTo_two]
  · rw [rowFrom_gau (by omega) h3]
    repeat' (first | simp -implicitDefEqProofs only [go_sem] | refine ACallK.eq (Untag_spec _ _ _ (by assumption)) ?_ | rw [h3] | (refine aixs_sl ha ?_) | refine ACallK.eq (UnpackGauge_spec _ _ _ (by assumption)) ?_ | refine acond_decF (by omega) ?_ | refine acond_decT (by omega) ?_ | refine acond_ndecF (by omega) ?_ | refine acond_ndecT (by omega) ?_ | refine acond_dec (fun _ => ?_) (fun _ => ?_) | refine acond_ndec (fun _ => ?_) (fun _ => ?_) | refine agrd_dec (fun _ => ?_) (fun _ => ?_) | refine agrd_decf (fun _ => ?_) (fun _ => ?_) | refine agrd_ndec (fun _ => ?_) (fun _ => ?_) | refine agrd_ndecf (fun _ => ?_) (fun _ => ?_) | refine abi_len_sl' (by assumption) ?_ | refine aixs_sln (by assumption) ?_ | refine afa_sl (by assumption) ?_ | (refine aK_sl (by assumption) (by omega) ?_; first | rintro _ ⟨rfl, _⟩ | (intro _ hx; obtain ⟨_, rfl, _, _⟩ := EvD.out hx) | (intro _ hx; obtain ⟨_, _, rfl, _, _, _⟩ := JobD.out hx) | rintro _ ⟨_, rfl, _⟩) | rw [SlR.one (by assumption)] | rw [SlR.leaf (by assumption)] | simp -implicitDefEqProofs (disch := omega) only [wrap_in, u8_small, Int.tmod_eq_emod_of_nonneg, Int.tdiv_eq_ediv_of_nonneg] | refine aK_sub (by assumption) ?_ | refine aix_strn (fun _ _ => ?_) | ((with_reducible refine adraw_seq ?_ ?_ ?_); (· kernel_rfl); (· decide +kernel)) | simp -implicitDefEqProofs only [go_sem, slCells_own, aapp_own] | (with_reducible refine And.intro (by omega) ?_) | ((with_reducible refine adraw_plan [(0, []), (1, []), (2, []), (3, []), (4, []), (5, []), (6, [0, 1]), (7, []), (8, []), (9, []), (10, [])] ?_ ?_ ?_); (· kernel_rfl); (· decide +kernel)) | refine And.intro (by omega) (And.intro (by omega) ?_) | refine acond_split (fun _ => ?_) (fun _ => ?_) | refine agrd_bt (fun _ => ?_) (fun _ => ?_) | refine agrd_bf (fun _ => ?_) (fun _ => ?_) | refine retK_eq ?_ | refine retK_back (by assumption) ?_ | refine retK_eq2 ?_ | refine retK_back2 (by assumption) ?_ | (with_reducible refine And.intro ?_ ?_))
    simp [rowK, row0, h3, get_getD (xs := raw) (i := 3) (by omega)]
  · rw [rowFrom_tim (by omega) h3]
    repeat' (first | simp -implicitDefEqProofs only [go_sem] | refine ACallK.eq (Untag_spec _ _ _ (by assumption)) ?_ | rw [h3] | refine acond_decF (by omega) ?_ | refine acond_decT (by omega) ?_ | refine acond_ndecF (by omega) ?_ | refine acond_ndecT (by omega) ?_ | refine acond_dec (fun _ => ?_) (fun _ => ?_) | refine acond_ndec (fun _ => ?_) (fun _ => ?_) | refine agrd_dec (fun _ => ?_) (fun _ => ?_) | refine agrd_decf (fun _ => ?_) (fun _ => ?_) | refine agrd_ndec (fun _ => ?_) (fun _ => ?_) | refine agrd_ndecf (fun _ => ?_) (fun _ => ?_) | refine abi_len_sl' (by assumption) ?_ | refine aixs_sln (by assumption) ?_ | refine afa_sl (by assumption) ?_ | (refine aK_sl (by assumption) (by omega) ?_; first | rintro _ ⟨rfl, _⟩ | (intro _ hx; obtain ⟨_, rfl, _, _⟩ := EvD.out hx) | (intro _ hx; obtain ⟨_, _, rfl, _, _, _⟩ := JobD.out hx) | rintro _ ⟨_, rfl, _⟩) | rw [SlR.one (by assumption)] | rw [SlR.leaf (by assumption)] | simp -implicitDefEqProofs (disch := omega) only [wrap_in, u8_small, Int.tmod_eq_emod_of_nonneg, Int.tdiv_eq_ediv_of_nonneg] | refine aK_sub (by assumption) ?_ | refine aix_strn (fun _ _ => ?_) | ((with_reducible refine adraw_seq ?_ ?_ ?_); (· kernel_rfl); (· decide +kernel)) | simp -implicitDefEqProofs only [go_sem, slCells_own, aapp_own] | (with_reducible refine And.intro (by omega) ?_) | ((with_reducible refine adraw_plan [(0, []), (1, []), (2, []), (3, []), (4, []), (5, []), (6, [0, 1]), (7, []), (8, []), (9, []), (10, [])] ?_ ?_ ?_); (· kernel_rfl); (· decide +kernel)) | refine And.intro (by omega) (And.intro (by omega) ?_) | refine acond_split (fun _ => ?_) (fun _ => ?_) | refine agrd_bt (fun _ => ?_) (fun _ => ?_) | refine agrd_bf (fun _ => ?_) (fun _ => ?_) | refine retK_eq ?_ | refine retK_back (by assumption) ?_ | refine retK_eq2 ?_ | refine retK_back2 (by assumption) ?_ | (with_reducible refine And.intro ?_ ?_))
    refine acode_while (fun i : Nat => [(1, v), (4, .ptr H.nxt 0), (7, .ptr (H.nxt + 1) 0), (11, .v (.int .i64 i))]) (fun i H' => i ≤ min 3 (raw.getD 4 0).toNat ∧ H' = (H.new (rowCells row0) 10).new (rowCells (samples raw i (rowK tag))) 10) (fun i => 3 - i) 0 ⟨by omega, by simp [rowCells, rowK, row0, samples, h3]⟩ ?_
    rintro i _ ⟨hi, rfl⟩
    have hB := samples_B raw (rowK_B tag) i
    have g4 := get_getD (xs := raw) (i := 4) (by omega)
    have hg4 := hg 4
    simp only [inI64] at hg4
    have e5 : (5 + (i : Int)).toNat = 5 + i := by omega
    repeat' (first | simp -implicitDefEqProofs only [go_sem] | refine acond_dec (fun _ => ?_) (fun _ => ?_) | refine acond_ndec (fun _ => ?_) (fun _ => ?_) | refine agrd_dec (fun _ => ?_) (fun _ => ?_) | refine agrd_decf (fun _ => ?_) (fun _ => ?_) | refine agrd_ndec (fun _ => ?_) (fun _ => ?_) | refine agrd_ndecf (fun _ => ?_) (fun _ => ?_) | refine abi_len_sl' (by assumption) ?_ | refine aixs_sln (by assumption) ?_ | refine afa_sl (by assumption) ?_ | (refine aK_sl (by assumption) (by omega) ?_; first | rintro _ ⟨rfl, _⟩ | (intro _ hx; obtain ⟨_, rfl, _, _⟩ := EvD.out hx) | (intro _ hx; obtain ⟨_, _, rfl, _, _, _⟩ := JobD.out hx) | rintro _ ⟨_, rfl, _⟩) | rw [SlR.one (by assumption)] | rw [SlR.leaf (by assumption)] | simp -implicitDefEqProofs (disch := omega) only [wrap_in, u8_small, Int.tmod_eq_emod_of_nonneg, Int.tdiv_eq_ediv_of_nonneg] | refine aK_sub (by assumption) ?_ | refine aix_strn (fun _ _ => ?_) | ((with_reducible refine adraw_seq ?_ ?_ ?_); (· kernel_rfl); (· decide +kernel)) | (refine aixs_sl ha ?_) | (rw [g4]) | refine ACallK.eq (Sampled_spec _ _ (samples raw i (rowK tag)) _ _ ⟨rfl, hB⟩) ?_ | simp -implicitDefEqProofs only [go_sem, slCells_own, aapp_own] | ((with_reducible refine adraw_plan [(0, []), (1, []), (2, []), (3, []), (4, []), (5, []), (6, [0, 1]), (7, []), (8, []), (9, []), (10, [])] ?_ ?_ ?_); (· kernel_rfl); (· decide +kernel)) | refine And.intro (by omega) (And.intro (by omega) ?_) | refine acond_split (fun _ => ?_) (fun _ => ?_) | refine agrd_bt (fun _ => ?_) (fun _ => ?_) | refine agrd_bf (fun _ => ?_) (fun _ => ?_) | refine retK_eq ?_ | refine retK_back (by assumption) ?_ | refine retK_eq2 ?_ | refine retK_back2 (by assumption) ?_)
    all_goals first
      | (rw [timerRow_hit (k := i) (by omega) (by assumption) (by omega)]; done)
      | (rw [timerRow_miss (k := i) (by omega) (by omega)]; done)
      | (refine back (i + 1) ⟨by omega, ?_⟩
         have hi5 : (5 + (i : Int)).toNat < raw.length := by omega
         simp only [samples, ← e5, ← get_getD hi5])
theorem RowFrom_impl (W0 : World) (tag : Int) (v : AV) (raw : List Int) (H : AH) (ht : inI64 tag) (ha : SlR W0 H v raw) : ACalls Tryz.prog W0 117 [.v (.int .i64 tag), v] H (fun u H' => u = .agg (rowCells (rowFrom tag raw)) ∧ H' = H) := by
  refine acallw Tryz.func117 rfl (by kernel_rfl) (by kernel_rfl) fun hc hw => ?_
  have hk := untag_kind tag
  have hz := untag_size tag
  have hg := fun i => getD_I ha i
  by_cases hb : (untag tag).2 = 0 ∨ ¬ (raw.length : Int) = 8
  · rw [rowFrom_none hb]
    repeat' (first | simp -implicitDefEqProofs only [go_sem] | refine acond_dec (fun _ => ?_) (fun _ => ?_) | refine acond_ndec (fun _ => ?_) (fun _ => ?_) | refine agrd_dec (fun _ => ?_) (fun _ => ?_) | refine agrd_decf (fun _ => ?_) (fun _ => ?_) | refine agrd_ndec (fun _ => ?_) (fun _ => ?_) | refine agrd_ndecf (fun _ => ?_) (fun _ => ?_) | refine abi_len_sl' (by assumption) ?_ | refine aixs_sln (by assumption) ?_ | refine afa_sl (by assumption) ?_ | (refine aK_sl (by assumption) (by omega) ?_; first | rintro _ ⟨rfl, _⟩ | (intro _ hx; obtain ⟨_, rfl, _, _⟩ := EvD.out hx) | (intro _ hx; obtain ⟨_, _, rfl, _, _, _⟩ := JobD.out hx) | rintro _ ⟨_, rfl, _⟩) | rw [SlR.one (by assumption)] | rw [SlR.leaf (by assumption)] | simp -implicitDefEqProofs (disch := omega) only [wrap_in, u8_small, Int.tmod_eq_emod_of_nonneg, Int.tdiv_eq_ediv_of_nonneg] | refine aK_sub (by assumption) ?_ | refine aix_strn (fun _ _ => ?_) | ((with_reducible refine adraw_seq ?_ ?_ ?_); (· kernel_rfl); (· decide +kernel)) | refine ACallK.eq (Untag_impl _ _ _ (by assumption)) ?_ | (exfalso; omega) | simp -implicitDefEqProofs only [go_sem, slCells_own, aapp_own] | refine And.intro (by omega) (And.intro (by omega) ?_) | refine acond_split (fun _ => ?_) (fun _ => ?_) | refine agrd_bt (fun _ => ?_) (fun _ => ?_) | refine agrd_bf (fun _ => ?_) (fun _ => ?_) | refine retK_eq ?_ | refine retK_back (by assumption) ?_ | refine retK_eq2 ?_ | refine retK_back2 (by assumption) ?_)
    all_goals first | rfl | (exfalso; omega)
  have hl : raw.length = 8 := by omega
  have h3 : (untag tag).2 = 1 ∨ (untag tag).2 = 2 ∨ (untag tag).2 = 3 := by omega
  rcases h3 with h3 | h3 | h3
  · rw [rowFrom_cnt (by omega) h3]
    repeat' (first | simp -implicitDefEqProofs only [go_sem] | refine ACallK.eq (Untag_impl _ _ _ (by assumption)) ?_ | rw [h3] | (refine asl_sl ha ?_) | (refine aslE_sl ha (fun hv2 => ?_)) | refine acond_decF (by omega) ?_ | refine acond_decT (by omega) ?_ | refine acond_ndecF (by omega) ?_ | refine acond_ndecT (by omega) ?_ | refine acond_dec (fun _ => ?_) (fun _ => ?_) | refine acond_ndec (fun _ => ?_) (fun _ => ?_) | refine agrd_dec (fun _ => ?_) (fun _ => ?_) | refine agrd_decf (fun _ => ?_) (fun _ => ?_) | refine agrd_ndec (fun _ => ?_) (fun _ => ?_) | refine agrd_ndecf (fun _ => ?_) (fun _ => ?_) | refine abi_len_sl' (by assumption) ?_ | refine aixs_sln (by assumption) ?_ | refine afa_sl (by assumption) ?_ | (refine aK_sl (by assumption) (by omega) ?_; first | rintro _ ⟨rfl, _⟩ | (intro _ hx; obtain ⟨_, rfl, _, _⟩ := EvD.out hx) | (intro _ hx; obtain ⟨_, _, rfl, _, _, _⟩ := JobD.out hx) | rintro _ ⟨_, rfl, _⟩) | rw [SlR.one (by assumption)] | rw [SlR.leaf (by assumption)] | simp -implicitDefEqProofs (disch := omega) only [wrap_in, u8_small, Int.tmod_eq_emod_of_nonneg, Int.tdiv_eq_ediv_of_nonneg] | refine aK_sub (by assumption) ?_ | refine aix_strn (fun _ _ => ?_) | ((with_reducible refine adraw_seq ?_ ?_ ?_); (· kernel_rfl); (· decide +kernel)) | simp -implicitDefEqProofs only [go_sem, slCells_own, aapp_own] | (with_reducible refine And.intro (by omega) ?_) | refine And.intro (by omega) (And.intro (by omega) ?_) | refine acond_split (fun _ => ?_) (fun _ => ?_) | refine agrd_bt (fun _ => ?_) (fun _ => ?_) | refine agrd_bf (fun _ => ?_) (fun _ => ?_) | refine retK_eq ?_ | refine retK_back (by assumption) ?_ | refine retK_eq2 ?_ | refine retK_back2 (by assumption) ?_ | (with_reducible refine And.intro ?_ ?_))
    have hv3 : SlR W0 H (slA 1 v 0 2) (raw.take 2) := hv2
    clear hv2
    have he3 : slA 1 v (((0 : Nat) : Int)).toNat 2 = slA 1 v 0 2 := rfl
    try rw [he3]
    have hl2 : (raw.take 2).length = 2 := by simp; omega
    have hgi : ∀ i, i < 2 → ∀ h, (raw.take 2)[i]'h = raw.getD i 0 := by
      intro i hi h
      simp [List.getD_eq_getElem?_getD, List.getElem?_eq_getElem (show i < raw.length by omega)]
    generalize raw.take 2 = r2 at *
    generalize slA 1 v 0 2 = v2 at *
    refine acode_while (fun i : Nat => [(4, .ptr H.nxt 0), (7, .ptr (H.nxt + 1) 0), (63, v2), (64, .v (.int .i64 2)), (65, .v (.int .i64 i))]) (fun i H' => i ≤ 2 ∧ H' = (H.new (rowCells row0) 10).new (rowCells { rowK tag with sum := sumI raw i }) 10) (fun i => 2 - i) 0 ⟨by omega, by simp [rowCells, rowK, row0, sumI, h3]⟩ ?_ (by simp only [frOk, go_sem]; simp; omega)
    rintro i _ ⟨hi, rfl⟩
    have hS := sumI_two raw
    simp only [inI64] at hS
    have hT := tmod48 (sumI raw 2)
    repeat' (first | simp -implicitDefEqProofs only [go_sem] | refine acond_dec (fun _ => ?_) (fun _ => ?_) | refine acond_ndec (fun _ => ?_) (fun _ => ?_) | refine agrd_dec (fun _ => ?_) (fun _ => ?_) | refine agrd_decf (fun _ => ?_) (fun _ => ?_) | refine agrd_ndec (fun _ => ?_) (fun _ => ?_) | refine agrd_ndecf (fun _ => ?_) (fun _ => ?_) | refine abi_len_sl' (by assumption) ?_ | refine aixs_sln (by assumption) ?_ | refine afa_sl (by assumption) ?_ | (refine aK_sl (by assumption) (by omega) ?_; first | rintro _ ⟨rfl, _⟩ | (intro _ hx; obtain ⟨_, rfl, _, _⟩ := EvD.out hx) | (intro _ hx; obtain ⟨_, _, rfl, _, _, _⟩ := JobD.out hx) | rintro _ ⟨_, rfl, _⟩) | rw [SlR.one (by assumption)] | rw [SlR.leaf (by assumption)] | simp -implicitDefEqProofs (disch := omega) only [wrap_in, u8_small, Int.tmod_eq_emod_of_nonneg, Int.tdiv_eq_ediv_of_nonneg] | refine aK_sub (by assumption) ?_ | refine aix_strn (fun _ _ => ?_) | ((with_reducible refine adraw_seq ?_ ?_ ?_); (· kernel_rfl); (· decide +kernel)) | simp -implicitDefEqProofs only [go_sem, slCells_own, aapp_own] | refine And.intro (by omega) (And.intro (by omega) ?_) | refine acond_split (fun _ => ?_) (fun _ => ?_) | refine agrd_bt (fun _ => ?_) (fun _ => ?_) | refine agrd_bf (fun _ => ?_) (fun _ => ?_) | refine retK_eq ?_ | refine retK_back (by assumption) ?_ | refine retK_eq2 ?_ | refine retK_back2 (by assumption) ?_)
    · refine back (i + 1) ⟨by omega, ?_⟩
      simp only [rowCells, sumI]
      rw [hgi i (by omega)]
    · have : i = 2 := by omega
      subst this
      rw [wrap_in _ (by omega) (by omega), Int.tmod_eq_emod_of_nonneg (by omega)]
      rw [show ((sumI raw 2).tmod 281474976710656 + 281474976710656) % 281474976710656 = (raw.getD 0 0 + raw.getD 1 0) % 281474976710656 by omega]
  · rw [rowFrom_gau (by omega) h3]
    repeat' (first | simp -implicitDefEqProofs only [go_sem] | refine ACallK.eq (Untag_impl _ _ _ (by assumption)) ?_ | rw [h3] | (refine aixs_sl ha ?_) | refine ACallK.eq (UnpackGauge_impl _ _ _ (by assumption)) ?_ | refine acond_decF (by omega) ?_ | refine acond_decT (by omega) ?_ | refine acond_ndecF (by omega) ?_ | refine acond_ndecT (by omega) ?_ | refine acond_dec (fun _ => ?_) (fun _ => ?_) | refine acond_ndec (fun _ => ?_) (fun _ => ?_) | refine agrd_dec (fun _ => ?_) (fun _ => ?_) | refine agrd_decf (fun _ => ?_) (fun _ => ?_) | refine agrd_ndec (fun _ => ?_) (fun _ => ?_) | refine agrd_ndecf (fun _ => ?_) (fun _ => ?_) | refine abi_len_sl' (by assumption) ?_ | refine aixs_sln (by assumption) ?_ | refine afa_sl (by assumption) ?_ | (refine aK_sl (by assumption) (by omega) ?_; first | rintro _ ⟨rfl, _⟩ | (intro _ hx; obtain ⟨_, rfl, _, _⟩ := EvD.out hx) | (intro _ hx; obtain ⟨_, _, rfl, _, _, _⟩ := JobD.out hx) | rintro _ ⟨_, rfl, _⟩) | rw [SlR.one (by assumption)] | rw [SlR.leaf (by assumption)] | simp -implicitDefEqProofs (disch := omega) only [wrap_in, u8_small, Int.tmod_eq_emod_of_nonneg, Int.tdiv_eq_ediv_of_nonneg] | refine aK_sub (by assumption) ?_ | refine aix_strn (fun _ _ => ?_) | ((with_reducible refine adraw_seq ?_ ?_ ?_); (· kernel_rfl); (· decide +kernel)) | simp -implicitDefEqProofs only [go_sem, slCells_own, aapp_own] | (with_reducible refine And.intro (by omega) ?_) | refine And.intro (by omega) (And.intro (by omega) ?_) | refine acond_split (fun _ => ?_) (fun _ => ?_) | refine agrd_bt (fun _ => ?_) (fun _ => ?_) | refine agrd_bf (fun _ => ?_) (fun _ => ?_) | refine retK_eq ?_ | refine retK_back (by assumption) ?_ | refine retK_eq2 ?_ | refine retK_back2 (by assumption) ?_ | (with_reducible refine And.intro ?_ ?_))
    simp [rowK, row0, h3, get_getD (xs := raw) (i := 3) (by omega)]
  · rw [rowFrom_tim (by omega) h3]
    have g4 := get_getD (xs := raw) (i := 4) (by omega)
    have hg4 := hg 4
    simp only [inI64] at hg4
    repeat' (first | simp -implicitDefEqProofs only [go_sem] | refine ACallK.eq (Untag_impl _ _ _ (by assumption)) ?_ | rw [h3] | (refine aixs_sl ha ?_) | (rw [g4]) | refine acond_decF (by omega) ?_ | refine acond_decT (by omega) ?_ | refine acond_ndecF (by omega) ?_ | refine acond_ndecT (by omega) ?_ | refine acond_dec (fun _ => ?_) (fun _ => ?_) | refine acond_ndec (fun _ => ?_) (fun _ => ?_) | refine agrd_dec (fun _ => ?_) (fun _ => ?_) | refine agrd_decf (fun _ => ?_) (fun _ => ?_) | refine agrd_ndec (fun _ => ?_) (fun _ => ?_) | refine agrd_ndecf (fun _ => ?_) (fun _ => ?_) | refine abi_len_sl' (by assumption) ?_ | refine aixs_sln (by assumption) ?_ | refine afa_sl (by assumption) ?_ | (refine aK_sl (by assumption) (by omega) ?_; first | rintro _ ⟨rfl, _⟩ | (intro _ hx; obtain ⟨_, rfl, _, _⟩ := EvD.out hx) | (intro _ hx; obtain ⟨_, _, rfl, _, _, _⟩ := JobD.out hx) | rintro _ ⟨_, rfl, _⟩) | rw [SlR.one (by assumption)] | rw [SlR.leaf (by assumption)] | simp -implicitDefEqProofs (disch := omega) only [wrap_in, u8_small, Int.tmod_eq_emod_of_nonneg, Int.tdiv_eq_ediv_of_nonneg] | refine aK_sub (by assumption) ?_ | refine aix_strn (fun _ _ => ?_) | ((with_reducible refine adraw_seq ?_ ?_ ?_); (· kernel_rfl); (· decide +kernel)) | simp -implicitDefEqProofs only [go_sem, slCells_own, aapp_own] | (with_reducible refine And.intro (by omega) ?_) | refine And.intro (by omega) (And.intro (by omega) ?_) | refine acond_split (fun _ => ?_) (fun _ => ?_) | refine agrd_bt (fun _ => ?_) (fun _ => ?_) | refine agrd_bf (fun _ => ?_) (fun _ => ?_) | refine retK_eq ?_ | refine retK_back (by assumption) ?_ | refine retK_eq2 ?_ | refine retK_back2 (by assumption) ?_ | (with_reducible refine And.intro ?_ ?_))
    refine acode_while (fun i : Nat => [(1, v), (4, .ptr H.nxt 0), (7, .ptr (H.nxt + 1) 0), (12, .v (.int .i64 (raw.getD 4 0))), (36, .v (.int .i64 ((min 3 (raw.getD 4 0).toNat : Nat) : Int))), (37, .v (.int .i64 i))]) (fun i H' => i ≤ min 3 (raw.getD 4 0).toNat ∧ H' = (H.new (rowCells row0) 10).new (rowCells (samples raw i (rowK tag))) 10) (fun i => 3 - i) 0 ⟨by omega, by simp [rowCells, rowK, row0, samples, h3]⟩ ?_ (by simp only [frOk, go_sem]; refine ⟨iv ?_, rfl⟩; split <;> split <;> omega)
    rintro i _ ⟨hi, rfl⟩
    have hB := samples_B raw (rowK_B tag) i
    have e5 : (5 + (i : Int)).toNat = 5 + i := by omega
    repeat' (first | simp -implicitDefEqProofs only [go_sem] | refine acond_dec (fun _ => ?_) (fun _ => ?_) | refine acond_ndec (fun _ => ?_) (fun _ => ?_) | refine agrd_dec (fun _ => ?_) (fun _ => ?_) | refine agrd_decf (fun _ => ?_) (fun _ => ?_) | refine agrd_ndec (fun _ => ?_) (fun _ => ?_) | refine agrd_ndecf (fun _ => ?_) (fun _ => ?_) | refine abi_len_sl' (by assumption) ?_ | refine aixs_sln (by assumption) ?_ | refine afa_sl (by assumption) ?_ | (refine aK_sl (by assumption) (by omega) ?_; first | rintro _ ⟨rfl, _⟩ | (intro _ hx; obtain ⟨_, rfl, _, _⟩ := EvD.out hx) | (intro _ hx; obtain ⟨_, _, rfl, _, _, _⟩ := JobD.out hx) | rintro _ ⟨_, rfl, _⟩) | rw [SlR.one (by assumption)] | rw [SlR.leaf (by assumption)] | simp -implicitDefEqProofs (disch := omega) only [wrap_in, u8_small, Int.tmod_eq_emod_of_nonneg, Int.tdiv_eq_ediv_of_nonneg] | refine aK_sub (by assumption) ?_ | refine aix_strn (fun _ _ => ?_) | ((with_reducible refine adraw_seq ?_ ?_ ?_); (· kernel_rfl); (· decide +kernel)) | (refine aixs_sl ha ?_) | refine ACallK.eq (Sampled_impl _ _ (samples raw i (rowK tag)) _ _ ⟨rfl, hB⟩) ?_ | simp -implicitDefEqProofs only [go_sem, slCells_own, aapp_own] | refine And.intro (by omega) (And.intro (by omega) ?_) | refine acond_split (fun _ => ?_) (fun _ => ?_) | refine agrd_bt (fun _ => ?_) (fun _ => ?_) | refine agrd_bf (fun _ => ?_) (fun _ => ?_) | refine retK_eq ?_ | refine retK_back (by assumption) ?_ | refine retK_eq2 ?_ | refine retK_back2 (by assumption) ?_)
    all_goals first
      | (rw [timerRow_hit (k := i) (by omega) (by assumption) (by omega)]; done)
      | (rw [timerRow_miss (k := i) (by omega) (by omega)]; done)
      | (refine back (i + 1) ⟨by omega, ?_⟩
         have hi5 : (5 + (i : Int)).toNat < raw.length := by omega
         simp only [samples, ← e5, ← get_getD hi5])
      | trace_state
end Go.Proofs.YtipfnhfcoolhaaaGreat.Aw
