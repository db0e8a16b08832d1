/- Parts of a proof: Fr Fv Fri Frj Frk Mm. -/
import Derived.Test.YtipfnhfcoolhaaaGreatM06
import Derived.Test.YtipfnhfcoolhaaaGreatM02
import Derived.Test.YtipfnhfcoolhaaaGreatM03
import Derived.Test.YtipfnhfcoolhaaaGreatM05
set_option linter.unusedVariables false
set_option linter.unusedSimpArgs false
section
namespace Go.Proofs.YtipfnhfcoolhaaaGreat.Aw
open Go Go.RowKit
set_option maxRecDepth 100000
set_option maxHeartbeats 2000000
theorem wrap_mod48 (n : Int) : (IntKind.i64.wrap n) % 281474976710656 = n % 281474976710656 := by
  simp [IntKind.wrap, IntKind.bits, IntKind.signed]; omega
theorem wrap_I (n : Int) : inI64 (IntKind.i64.wrap n) := by
  simp [IntKind.wrap, IntKind.bits, IntKind.signed, inI64]; omega
theorem getD_I {W0 : World} {H : AH} {v : AV} {xs : List Int} (h : SlR W0 H v xs) (i : Nat) : inI64 (xs.getD i 0) := by
  rw [List.getD_eq_getElem?_getD]
  by_cases hi : i < xs.length
  · rw [List.getElem?_eq_getElem hi]
    obtain ⟨cs, _, _, hx⟩ := h.rd i hi
    exact hx
  · rw [List.getElem?_eq_none (by omega)]; simp [inI64]
theorem get_getD {xs : List Int} {i : Nat} (hi : i < xs.length) : xs[i] = xs.getD i 0 := by rw [List.getD_eq_getElem?_getD, List.getElem?_eq_getElem hi]; rfl
def sumTo (raw : List Int) : Nat → Int
  | 0 => 0
  | i + 1 => (sumTo raw i + raw.getD i 0 % 281474976710656) % 281474976710656
theorem sumTo_bd (raw : List Int) (i : Nat) : 0 ≤ sumTo raw i ∧ sumTo raw i < 281474976710656 := by
  cases i with
  | zero => simp [sumTo]
  | succ i => simp only [sumTo]; omega
theorem sumTo_two (raw : List Int) : sumTo raw 2 = (raw.getD 0 0 + raw.getD 1 0) % 281474976710656 := by simp only [sumTo]; omega
def sumI (raw : List Int) : Nat → Int
  | 0 => 0
  | i + 1 => IntKind.i64.wrap (sumI raw i + raw.getD i 0)
theorem sumI_two (raw : List Int) : inI64 (sumI raw 2) ∧ sumI raw 2 % 281474976710656 = (raw.getD 0 0 + raw.getD 1 0) % 281474976710656 := by
  refine ⟨wrap_I _, ?_⟩
  simp only [sumI]
  rw [wrap_mod48]
  have h1 := wrap_mod48 (0 + raw.getD 0 0)
  omega
theorem tmod48 (n : Int) : -281474976710656 < n.tmod 281474976710656 ∧ n.tmod 281474976710656 < 281474976710656 ∧ (n.tmod 281474976710656) % 281474976710656 = n % 281474976710656 := by
  by_cases h : 0 ≤ n
  · rw [Int.tmod_eq_emod_of_nonneg h]; omega
  · obtain ⟨m, rfl⟩ : ∃ m, n = -m := ⟨-n, by omega⟩
    rw [Int.neg_tmod, Int.tmod_eq_emod_of_nonneg (by omega)]; omega
def rowK (tag : Int) : RowD := { row0 with key := (untag tag).1, kind := (untag tag).2 }
theorem rowK_B (tag : Int) : rowB (rowK tag) := by
  have h1 := untag_kind tag
  have h2 := untag_size tag
  refine ⟨by show (untag tag).1.size ≤ big; simp only [big]; omega, by show inI64 (untag tag).2; simp only [inI64]; omega, ?_, ?_, ?_, ?_, ?_, ?_, ?_⟩ <;> simp [rowK, row0, inI64]
theorem samples_B (raw : List Int) {r : RowD} (h : rowB r) : ∀ k, rowB (samples raw k r)
  | 0 => h
  | k + 1 => sampled_B (samples_B raw h k) _
theorem rowFrom_none {tag : Int} {raw : List Int} (h : (untag tag).2 = 0 ∨ ¬ (raw.length : Int) = 8) : rowFrom tag raw = row0 := by rw [rowFrom, if_pos h]
theorem rowFrom_cnt {tag : Int} {raw : List Int} (h : (raw.length : Int) = 8) (hk : (untag tag).2 = 1) : rowFrom tag raw = { rowK tag with sum := (raw.getD 0 0 + raw.getD 1 0) % 281474976710656 } := by
  rw [rowFrom, if_neg (by omega), if_pos hk]; rfl
theorem rowFrom_gau {tag : Int} {raw : List Int} (h : (raw.length : Int) = 8) (hk : (untag tag).2 = 2) : rowFrom tag raw = { rowK tag with set := decide (0 < (unpackGauge (raw.getD 3 0)).1), last := (unpackGauge (raw.getD 3 0)).2 } := by
  rw [rowFrom, if_neg (by omega), if_neg (by omega), if_pos hk]; rfl
theorem rowFrom_tim {tag : Int} {raw : List Int} (h : (raw.length : Int) = 8) (hk : (untag tag).2 = 3) : rowFrom tag raw = timerRow raw (rowK tag) := by
  rw [rowFrom, if_neg (by omega), if_neg (by omega), if_neg (by omega)]; rfl
theorem timerRow_hit {raw : List Int} {r : RowD} {k : Nat} (hk : k = min 3 (raw.getD 4 0).toNat) (h1 : (samples raw k r).n = 3) (h2 : 3 < raw.getD 4 0) : timerRow raw r = { samples raw k r with dropped := if 65535 < raw.getD 4 0 - 3 then 65535 else raw.getD 4 0 - 3 } := by
  subst hk; simp only [timerRow]; rw [if_pos ⟨h1, h2⟩]
theorem timerRow_miss {raw : List Int} {r : RowD} {k : Nat} (hk : k = min 3 (raw.getD 4 0).toNat) (h : ¬ ((samples raw k r).n = 3 ∧ 3 < raw.getD 4 0)) : timerRow raw r = samples raw k r := by
  subst hk; simp only [timerRow]; rw [if_neg h]
theorem RowFrom_spec (W0 : World) (tag : Int) (v : AV) (raw : List Int) (H : AH) (ht : inI64 tag) (ha : SlR W0 H v raw) : ACalls Tryz.prog W0 120 [.v (.int .i64 tag), v] H (fun u H' => u = .agg (rowCells (rowFrom tag raw)) ∧ H' = H) := by
  refine acallw Tryz.func120 rfl (by kernel_rfl) (by kernel_rfl) fun hc hw => ?_
  have hk := untag_kind tag
  have hz := untag_size tag
  have hg := fun i => getD_I ha i
  by_cases hb : (untag tag).2 = 0 ∨ ¬ (raw.length : Int) = 8
  · rw [rowFrom_none hb]
    repeat' (first | simp -implicitDefEqProofs only [go_sem] | refine acond_dec (fun _ => ?_) (fun _ => ?_) | refine acond_ndec (fun _ => ?_) (fun _ => ?_) | refine agrd_decf (fun _ => ?_) (fun _ => ?_) | refine abi_len_sl' (by assumption) ?_ | refine aixs_sln (by assumption) ?_ | (refine aK_sl (by assumption) (by omega) ?_; first | rintro _ ⟨rfl, _⟩ | (intro _ hx; obtain ⟨_, rfl, _, _⟩ := EvD.out hx) | (intro _ hx; obtain ⟨_, _, rfl, _, _, _⟩ := JobD.out hx) | rintro _ ⟨_, rfl, _⟩) | refine ACallK.eq (Untag_spec _ _ _ (by assumption)) ?_ | (exfalso; omega) | refine retK_back (by assumption) ?_ | fail)
    all_goals first | rfl | (exfalso; omega)
  have hl : raw.length = 8 := by omega
  have h3 : (untag tag).2 = 1 ∨ (untag tag).2 = 2 ∨ (untag tag).2 = 3 := by omega
  rcases h3 with h3 | h3 | h3
  · rw [rowFrom_cnt (by omega) h3]
    repeat' (first | simp -implicitDefEqProofs only [go_sem] | refine ACallK.eq (Untag_spec _ _ _ (by assumption)) ?_ | rw [h3] | refine acond_ndecT (by omega) ?_ | refine abi_len_sl' (by assumption) ?_ | fail)
    refine acode_while (fun i : Nat => [(1, v), (4, .ptr H.nxt 0), (7, .ptr (H.nxt + 1) 0), (8, .v (.int .i64 i))]) (fun i H' => i ≤ 2 ∧ H' = (H.new (rowCells row0) 10).new (rowCells { rowK tag with sum := sumTo raw i }) 10) (fun i => 2 - i) 0 ⟨by omega, by simp [rowCells, rowK, row0, sumTo, h3]⟩ ?_
    rintro i _ ⟨hi, rfl⟩
    have hS := sumTo_bd raw i
    repeat' (first | simp -implicitDefEqProofs only [go_sem] | refine acond_dec (fun _ => ?_) (fun _ => ?_) | refine aixs_sln (by assumption) ?_ | (refine aK_sl (by assumption) (by omega) ?_; first | rintro _ ⟨rfl, _⟩ | (intro _ hx; obtain ⟨_, rfl, _, _⟩ := EvD.out hx) | (intro _ hx; obtain ⟨_, _, rfl, _, _, _⟩ := JobD.out hx) | rintro _ ⟨_, rfl, _⟩) | simp -implicitDefEqProofs (disch := omega) only [wrap_in, u8_small, Int.tmod_eq_emod_of_nonneg, Int.tdiv_eq_ediv_of_nonneg] | refine ACallK.eq (l2Mod_ok _ _ _ (by first | assumption | (simp only [inI64]; omega))) ?_ | ((with_reducible refine adraw_plan [(0, []), (1, []), (2, []), (3, []), (4, []), (5, []), (6, [0, 1]), (7, []), (8, []), (9, []), (10, [])] ?_ ?_ ?_); (· kernel_rfl); (· decide +kernel)) | refine retK_back (by assumption) ?_ | fail)
    · refine back (i + 1) ⟨by omega, ?_⟩
      simp only [rowCells, sumTo]
      rw [get_getD (by omega)]
    · have : i = 2 := by omega
      subst this
      rw [sumTo_two]
  · rw [rowFrom_gau (by omega) h3]
    repeat' (first | simp -implicitDefEqProofs only [go_sem] | refine ACallK.eq (Untag_spec _ _ _ (by assumption)) ?_ | rw [h3] | (refine aixs_sl ha ?_) | refine ACallK.eq (UnpackGauge_spec _ _ _ (by assumption)) ?_ | refine acond_ndecT (by omega) ?_ | refine abi_len_sl' (by assumption) ?_ | (refine aK_sl (by assumption) (by omega) ?_; first | rintro _ ⟨rfl, _⟩ | (intro _ hx; obtain ⟨_, rfl, _, _⟩ := EvD.out hx) | (intro _ hx; obtain ⟨_, _, rfl, _, _, _⟩ := JobD.out hx) | rintro _ ⟨_, rfl, _⟩) | refine retK_back (by assumption) ?_ | fail)
    simp [rowK, row0, h3, get_getD (xs := raw) (i := 3) (by omega)]
  · rw [rowFrom_tim (by omega) h3]
    repeat' (first | simp -implicitDefEqProofs only [go_sem] | refine ACallK.eq (Untag_spec _ _ _ (by assumption)) ?_ | rw [h3] | refine acond_ndecT (by omega) ?_ | refine abi_len_sl' (by assumption) ?_ | fail)
    refine acode_while (fun i : Nat => [(1, v), (4, .ptr H.nxt 0), (7, .ptr (H.nxt + 1) 0), (11, .v (.int .i64 i))]) (fun i H' => i ≤ min 3 (raw.getD 4 0).toNat ∧ H' = (H.new (rowCells row0) 10).new (rowCells (samples raw i (rowK tag))) 10) (fun i => 3 - i) 0 ⟨by omega, by simp [rowCells, rowK, row0, samples, h3]⟩ ?_
    rintro i _ ⟨hi, rfl⟩
    have hB := samples_B raw (rowK_B tag) i
    have g4 := get_getD (xs := raw) (i := 4) (by omega)
    have hg4 := hg 4
    simp only [inI64] at hg4
    have e5 : (5 + (i : Int)).toNat = 5 + i := by omega
    repeat' (first | simp -implicitDefEqProofs only [go_sem] | refine acond_dec (fun _ => ?_) (fun _ => ?_) | refine agrd_dec (fun _ => ?_) (fun _ => ?_) | refine aixs_sln (by assumption) ?_ | (refine aK_sl (by assumption) (by omega) ?_; first | rintro _ ⟨rfl, _⟩ | (intro _ hx; obtain ⟨_, rfl, _, _⟩ := EvD.out hx) | (intro _ hx; obtain ⟨_, _, rfl, _, _, _⟩ := JobD.out hx) | rintro _ ⟨_, rfl, _⟩) | simp -implicitDefEqProofs (disch := omega) only [wrap_in, u8_small, Int.tmod_eq_emod_of_nonneg, Int.tdiv_eq_ediv_of_nonneg] | ((with_reducible refine adraw_seq ?_ ?_ ?_); (· kernel_rfl); (· decide +kernel)) | (refine aixs_sl ha ?_) | (rw [g4]) | refine ACallK.eq (Sampled_spec _ _ (samples raw i (rowK tag)) _ _ ⟨rfl, hB⟩) ?_ | refine retK_back (by assumption) ?_ | fail)
    all_goals first
      | (rw [timerRow_hit (k := i) (by omega) (by assumption) (by omega)]; done)
      | (rw [timerRow_miss (k := i) (by omega) (by omega)]; done)
      | (refine back (i + 1) ⟨by omega, ?_⟩
         have hi5 : (5 + (i : Int)).toNat < raw.length := by omega
         simp only [samples, ← e5, ← get_getD hi5])
theorem RowFrom_impl (W0 : World) (tag : Int) (v : AV) (raw : List Int) (H : AH) (ht : inI64 tag) (ha : SlR W0 H v raw) : ACalls Tryz.prog W0 117 [.v (.int .i64 tag), v] H (fun u H' => u = .agg (rowCells (rowFrom tag raw)) ∧ H' = H) := by
  refine acallw Tryz.func117 rfl (by kernel_rfl) (by kernel_rfl) fun hc hw => ?_
  have hk := untag_kind tag
  have hz := untag_size tag
  have hg := fun i => getD_I ha i
  by_cases hb : (untag tag).2 = 0 ∨ ¬ (raw.length : Int) = 8
  · rw [rowFrom_none hb]
    repeat' (first | simp -implicitDefEqProofs only [go_sem] | refine acond_dec (fun _ => ?_) (fun _ => ?_) | refine acond_ndec (fun _ => ?_) (fun _ => ?_) | refine agrd_decf (fun _ => ?_) (fun _ => ?_) | refine abi_len_sl' (by assumption) ?_ | refine aixs_sln (by assumption) ?_ | (refine aK_sl (by assumption) (by omega) ?_; first | rintro _ ⟨rfl, _⟩ | (intro _ hx; obtain ⟨_, rfl, _, _⟩ := EvD.out hx) | (intro _ hx; obtain ⟨_, _, rfl, _, _, _⟩ := JobD.out hx) | rintro _ ⟨_, rfl, _⟩) | refine ACallK.eq (Untag_impl _ _ _ (by assumption)) ?_ | (exfalso; omega) | refine retK_back (by assumption) ?_ | fail)
    all_goals first | rfl | (exfalso; omega)
  have hl : raw.length = 8 := by omega
  have h3 : (untag tag).2 = 1 ∨ (untag tag).2 = 2 ∨ (untag tag).2 = 3 := by omega
  rcases h3 with h3 | h3 | h3
  · rw [rowFrom_cnt (by omega) h3]
    repeat' (first | simp -implicitDefEqProofs only [go_sem] | refine ACallK.eq (Untag_impl _ _ _ (by assumption)) ?_ | rw [h3] | (refine asl_sl ha ?_) | (refine aslE_sl ha (fun hv2 => ?_)) | refine acond_ndecT (by omega) ?_ | refine abi_len_sl' (by assumption) ?_ | fail)
    have hv3 : SlR W0 H (slA 1 v 0 2) (raw.take 2) := hv2
    clear hv2
    have he3 : slA 1 v (((0 : Nat) : Int)).toNat 2 = slA 1 v 0 2 := rfl
    try rw [he3]
    have hl2 : (raw.take 2).length = 2 := by simp; omega
    have hgi : ∀ i, i < 2 → ∀ h, (raw.take 2)[i]'h = raw.getD i 0 := by
      intro i hi h
      simp [List.getD_eq_getElem?_getD, List.getElem?_eq_getElem (show i < raw.length by omega)]
    generalize raw.take 2 = r2 at *
    generalize slA 1 v 0 2 = v2 at *
    refine acode_while (fun i : Nat => [(4, .ptr H.nxt 0), (7, .ptr (H.nxt + 1) 0), (63, v2), (64, .v (.int .i64 2)), (65, .v (.int .i64 i))]) (fun i H' => i ≤ 2 ∧ H' = (H.new (rowCells row0) 10).new (rowCells { rowK tag with sum := sumI raw i }) 10) (fun i => 2 - i) 0 ⟨by omega, by simp [rowCells, rowK, row0, sumI, h3]⟩ ?_ (by simp only [frOk, go_sem]; simp; omega)
    rintro i _ ⟨hi, rfl⟩
    have hS := sumI_two raw
    simp only [inI64] at hS
    have hT := tmod48 (sumI raw 2)
    repeat' (first | simp -implicitDefEqProofs only [go_sem] | refine acond_dec (fun _ => ?_) (fun _ => ?_) | refine aixs_sln (by assumption) ?_ | (refine aK_sl (by assumption) (by omega) ?_; first | rintro _ ⟨rfl, _⟩ | (intro _ hx; obtain ⟨_, rfl, _, _⟩ := EvD.out hx) | (intro _ hx; obtain ⟨_, _, rfl, _, _, _⟩ := JobD.out hx) | rintro _ ⟨_, rfl, _⟩) | simp -implicitDefEqProofs (disch := omega) only [wrap_in, u8_small, Int.tmod_eq_emod_of_nonneg, Int.tdiv_eq_ediv_of_nonneg] | refine retK_back (by assumption) ?_ | fail)
    · refine back (i + 1) ⟨by omega, ?_⟩
      simp only [rowCells, sumI]
      rw [hgi i (by omega)]
    · have : i = 2 := by omega
      subst this
      rw [wrap_in _ (by omega) (by omega), Int.tmod_eq_emod_of_nonneg (by omega)]
      rw [show ((sumI raw 2).tmod 281474976710656 + 281474976710656) % 281474976710656 = (raw.getD 0 0 + raw.getD 1 0) % 281474976710656 by omega]
  · rw [rowFrom_gau (by omega) h3]
    repeat' (first | simp -implicitDefEqProofs only [go_sem] | refine ACallK.eq (Untag_impl _ _ _ (by assumption)) ?_ | rw [h3] | (refine aixs_sl ha ?_) | refine ACallK.eq (UnpackGauge_impl _ _ _ (by assumption)) ?_ | refine acond_ndecT (by omega) ?_ | refine abi_len_sl' (by assumption) ?_ | (refine aK_sl (by assumption) (by omega) ?_; first | rintro _ ⟨rfl, _⟩ | (intro _ hx; obtain ⟨_, rfl, _, _⟩ := EvD.out hx) | (intro _ hx; obtain ⟨_, _, rfl, _, _, _⟩ := JobD.out hx) | rintro _ ⟨_, rfl, _⟩) | refine retK_back (by assumption) ?_ | fail)
    simp [rowK, row0, h3, get_getD (xs := raw) (i := 3) (by omega)]
  · rw [rowFrom_tim (by omega) h3]
    have g4 := get_getD (xs := raw) (i := 4) (by omega)
    have hg4 := hg 4
    simp only [inI64] at hg4
    repeat' (first | simp -implicitDefEqProofs only [go_sem] | refine ACallK.eq (Untag_impl _ _ _ (by assumption)) ?_ | rw [h3] | (refine aixs_sl ha ?_) | (rw [g4]) | refine acond_ndecT (by omega) ?_ | refine abi_len_sl' (by assumption) ?_ | (refine aK_sl (by assumption) (by omega) ?_; first | rintro _ ⟨rfl, _⟩ | (intro _ hx; obtain ⟨_, rfl, _, _⟩ := EvD.out hx) | (intro _ hx; obtain ⟨_, _, rfl, _, _, _⟩ := JobD.out hx) | rintro _ ⟨_, rfl, _⟩) | fail)
    refine acode_while (fun i : Nat => [(1, v), (4, .ptr H.nxt 0), (7, .ptr (H.nxt + 1) 0), (12, .v (.int .i64 (raw.getD 4 0))), (36, .v (.int .i64 ((min 3 (raw.getD 4 0).toNat : Nat) : Int))), (37, .v (.int .i64 i))]) (fun i H' => i ≤ min 3 (raw.getD 4 0).toNat ∧ H' = (H.new (rowCells row0) 10).new (rowCells (samples raw i (rowK tag))) 10) (fun i => 3 - i) 0 ⟨by omega, by simp [rowCells, rowK, row0, samples, h3]⟩ ?_ (by simp only [frOk, go_sem]; refine ⟨iv ?_, rfl⟩; split <;> split <;> omega)
    rintro i _ ⟨hi, rfl⟩
    have hB := samples_B raw (rowK_B tag) i
    have e5 : (5 + (i : Int)).toNat = 5 + i := by omega
    repeat' (first | simp -implicitDefEqProofs only [go_sem] | refine acond_dec (fun _ => ?_) (fun _ => ?_) | refine agrd_dec (fun _ => ?_) (fun _ => ?_) | (refine aK_sl (by assumption) (by omega) ?_; first | rintro _ ⟨rfl, _⟩ | (intro _ hx; obtain ⟨_, rfl, _, _⟩ := EvD.out hx) | (intro _ hx; obtain ⟨_, _, rfl, _, _, _⟩ := JobD.out hx) | rintro _ ⟨_, rfl, _⟩) | simp -implicitDefEqProofs (disch := omega) only [wrap_in, u8_small, Int.tmod_eq_emod_of_nonneg, Int.tdiv_eq_ediv_of_nonneg] | ((with_reducible refine adraw_seq ?_ ?_ ?_); (· kernel_rfl); (· decide +kernel)) | (refine aixs_sl ha ?_) | refine ACallK.eq (Sampled_impl _ _ (samples raw i (rowK tag)) _ _ ⟨rfl, hB⟩) ?_ | refine retK_back (by assumption) ?_ | fail)
    all_goals first
      | (rw [timerRow_hit (k := i) (by omega) (by assumption) (by omega)]; done)
      | (rw [timerRow_miss (k := i) (by omega) (by omega)]; done)
      | (refine back (i + 1) ⟨by omega, ?_⟩
         have hi5 : (5 + (i : Int)).toNat < raw.length := by omega
         simp only [samples, ← e5, ← get_getD hi5])
      | trace_state
end Go.Proofs.YtipfnhfcoolhaaaGreat.Aw
end
section
namespace Go.Proofs.YtipfnhfcoolhaaaGreat.Aw
open Go Go.RowKit
set_option maxRecDepth 100000
set_option maxHeartbeats 2000000
theorem cellsOk_len {a : List Int} (h : cellsOk a = true) : a.length = 71 := (cellsOk_iff.1 h).2
theorem slotBase_bd {b s : Int} : (0 ≤ slotBase b s → (0 ≤ b ∧ b ≤ 1) ∧ (0 ≤ s ∧ s ≤ 3) ∧ slotBase b s = 7 + b * 32 + s * 8) ∧ (¬ 0 ≤ slotBase b s → slotBase b s = -1) := by
  unfold slotBase; split <;> omega
theorem keyCell_in {s : Int} (h : 0 ≤ s ∧ s ≤ 3) : keyCell s = 3 + s := by rw [keyCell, if_pos h]
theorem rowIn_bad {a : List Int} {b s : Int} (h : cellsOk a = false ∨ slotBase b s < 0) : rowIn a b s = row0 := by
  rw [rowIn, if_neg]; rintro ⟨h1, h2⟩; rcases h with h | h
  · rw [h] at h1; cases h1
  · omega
theorem unpackGauge_I (n : Int) : inI64 (unpackGauge n).1 ∧ inI64 (unpackGauge n).2 := by
  unfold unpackGauge; split <;> simp [inI64] <;> omega
theorem rowFrom_B (tag : Int) {raw : List Int} (hr : ∀ i, inI64 (raw.getD i 0)) : rowB (rowFrom tag raw) := by
  have hk := untag_kind tag
  obtain ⟨h1, h2, h3, h4, h5, h6, h7, h8, h9⟩ := rowK_B tag
  have hu := unpackGauge_I (raw.getD 3 0)
  by_cases hb : (untag tag).2 = 0 ∨ ¬ (raw.length : Int) = 8
  · rw [rowFrom_none hb]; exact row0_B
  have h38 : (untag tag).2 = 1 ∨ (untag tag).2 = 2 ∨ (untag tag).2 = 3 := by omega
  rcases h38 with h | h | h
  · rw [rowFrom_cnt (by omega) h]
    exact ⟨h1, h2, by simp only [inI64]; omega, h4, h5, h6, h7, h8, h9⟩
  · rw [rowFrom_gau (by omega) h]
    exact ⟨h1, h2, h3, hu.2, h5, h6, h7, h8, h9⟩
  · rw [rowFrom_tim (by omega) h]
    have hs := samples_B raw (rowK_B tag) (min 3 (raw.getD 4 0).toNat)
    have h4' := hr 4
    simp only [inI64] at h4'
    by_cases hc : (samples raw (min 3 (raw.getD 4 0).toNat) (rowK tag)).n = 3 ∧ 3 < raw.getD 4 0
    · rw [timerRow_hit rfl hc.1 hc.2]
      obtain ⟨g1, g2, g3, g4, g5, g6, g7, g8, g9⟩ := hs
      refine ⟨g1, g2, g3, g4, g5, g6, g7, g8, ?_⟩
      simp only [inI64]; split <;> omega
    · rw [timerRow_miss rfl hc]
      exact hs
theorem drop_getD (a : List Int) (n m i : Nat) : ((a.drop n).take m).getD i 0 = if i < m then a.getD (n + i) 0 else 0 := by
  simp only [List.getD_eq_getElem?_getD, List.getElem?_take, List.getElem?_drop]
  split <;> rfl
theorem rowIn_B {a : List Int} (b s : Int) (ha : ∀ i, inI64 (a.getD i 0)) : rowB (rowIn a b s) := by
  unfold rowIn
  split
  · refine rowFrom_B _ fun i => ?_
    rw [drop_getD]
    split
    · exact ha _
    · simp [inI64]
  · exact row0_B
theorem l8Raw_ok (W0 : World) (v : AV) (a : List Int) (b s : Int) (H : AH) (ha : SlR W0 H v a) (hl : a.length = 71) (h0 : 0 ≤ slotBase b s) : ACalls Tryz.prog W0 121 [v, .v (.int .i64 b), .v (.int .i64 s)] H (fun u H' => SlR W0 H u ((a.drop (slotBase b s).toNat).take 8) ∧ H' = H) := by
  refine acallw Tryz.func121 rfl (by kernel_rfl) (by kernel_rfl) fun hc hw => ?_
  have hb := slotBase_bd.1 h0
  have h8 : (slotBase b s + 8).toNat - (slotBase b s).toNat = 8 := by omega
  repeat' (first | simp -implicitDefEqProofs only [go_sem] | simp -implicitDefEqProofs (disch := omega) only [wrap_in, u8_small, Int.tmod_eq_emod_of_nonneg, Int.tdiv_eq_ediv_of_nonneg] | refine ACallK.eq (SlotBase_spec _ _ _ _) ?_ | (refine asl_sl ha ?_) | (refine aslE_sl ha (fun hv2 => ?_)))
  rw [h8] at hv2
  exact retK_one ⟨hv2, rfl⟩
theorem RowIn_spec (W0 : World) (v : AV) (a : List Int) (b s : Int) (H : AH) (ha : SlR W0 H v a) : ACalls Tryz.prog W0 41 [v, .v (.int .i64 b), .v (.int .i64 s)] H (fun u H' => u = .agg (rowCells (rowIn a b s)) ∧ H' = H) := by
  refine acallw Tryz.func41 rfl (by kernel_rfl) (by kernel_rfl) fun hc hw => ?_
  by_cases hb : cellsOk a = true ∧ 0 ≤ slotBase b s
  · have hl := cellsOk_len hb.1
    have hs := slotBase_bd.1 hb.2
    have hk := keyCell_in hs.2.1
    have hi : (keyCell s).toNat < a.length := by omega
    have hri : rowIn a b s = rowFrom a[(keyCell s).toNat] ((a.drop (slotBase b s).toNat).take 8) := by rw [rowIn, if_pos hb, get_getD hi]
    have hin : inI64 a[(keyCell s).toNat] := by rw [get_getD hi]; exact getD_I ha _
    repeat' (first | simp -implicitDefEqProofs only [go_sem] | refine ACallK.eq (CellsOk_spec _ _ a _ (SlR.sub' ha)) ?_ | (rw [hb.1]) | refine ACallK.eq (SlotBase_spec _ _ _ _) ?_ | refine ACallK.eq (KeyCell_spec _ _ _) ?_ | (refine aixs_sl ha ?_) | (refine ACallK.of (l8Raw_ok _ _ a _ _ _ (SlR.sub' ha) hl hb.2) ?_; rintro v2 _ ⟨hv2, rfl⟩) | refine ACallK.eq (RowFrom_spec _ _ _ _ _ (by assumption) (by first | assumption | exact SlR.sub' (by assumption))) ?_ | refine acond_decF (by omega) ?_ | (refine aK_sl (by assumption) (by omega) ?_; first | rintro _ ⟨rfl, _⟩ | (intro _ hx; obtain ⟨_, rfl, _, _⟩ := EvD.out hx) | (intro _ hx; obtain ⟨_, _, rfl, _, _, _⟩ := JobD.out hx) | rintro _ ⟨_, rfl, _⟩) | ((with_reducible refine adraw_plan [(0, []), (1, []), (5, []), (6, []), (7, []), (2, [0, 5, 6, 7]), (3, []), (4, []), (8, [0, 3, 4]), (9, []), (10, [])] ?_ ?_ ?_); (· kernel_rfl); (· decide +kernel)) | refine retK_back (by assumption) ?_ | (with_reducible refine And.intro ?_ ?_))
    all_goals first
      | (rw [hri]; done)
      | (exfalso; omega)
      | trace_state
  · rw [rowIn_bad (by by_cases h : cellsOk a = true; (have hq : ¬ 0 ≤ slotBase b s := fun k => hb ⟨h, k⟩); exact .inr (by omega); exact .inl (by simpa using h))]
    cases h : cellsOk a with
    | true =>
      have hneg : slotBase b s < 0 := by
        by_cases k : 0 ≤ slotBase b s
        · exact absurd ⟨h, k⟩ hb
        · omega
      repeat' (first | simp -implicitDefEqProofs only [go_sem] | refine ACallK.eq (CellsOk_spec _ _ a _ (SlR.sub' ha)) ?_ | (rw [h]) | refine ACallK.eq (SlotBase_spec _ _ _ _) ?_ | (simp only [hneg, decide_true]) | refine retK_back (by assumption) ?_ | fail)
      all_goals first | rfl | (exfalso; omega) | trace_state
    | false =>
      repeat' (first | simp -implicitDefEqProofs only [go_sem] | refine ACallK.eq (CellsOk_spec _ _ a _ (SlR.sub' ha)) ?_ | (rw [h]) | refine retK_back (by assumption) ?_ | fail)
      all_goals first | rfl | (exfalso; omega) | trace_state
theorem RowIn_impl (W0 : World) (v : AV) (a : List Int) (b s : Int) (H : AH) (ha : SlR W0 H v a) : ACalls Tryz.prog W0 40 [v, .v (.int .i64 b), .v (.int .i64 s)] H (fun u H' => u = .agg (rowCells (rowIn a b s)) ∧ H' = H) := by
  refine acallw Tryz.func40 rfl (by kernel_rfl) (by kernel_rfl) fun hc hw => ?_
  by_cases hb : cellsOk a = true ∧ 0 ≤ slotBase b s
  · have hl := cellsOk_len hb.1
    have hs := slotBase_bd.1 hb.2
    have hk := keyCell_in hs.2.1
    have hi : (keyCell s).toNat < a.length := by omega
    have h8 : (slotBase b s + 8).toNat - (slotBase b s).toNat = 8 := by omega
    have hri : rowIn a b s = rowFrom a[(keyCell s).toNat] ((a.drop (slotBase b s).toNat).take 8) := by rw [rowIn, if_pos hb, get_getD hi]
    have hin : inI64 a[(keyCell s).toNat] := by rw [get_getD hi]; exact getD_I ha _
    repeat' (first | simp -implicitDefEqProofs only [go_sem] | refine ACallK.eq (CellsOk_impl _ _ a _ (SlR.sub' ha)) ?_ | (rw [hb.1]) | refine ACallK.eq (SlotBase_impl _ _ _ _) ?_ | refine ACallK.eq (KeyCell_impl _ _ _) ?_ | (refine aixs_sl ha ?_) | (refine asl_sl ha ?_) | (refine aslE_sl ha (fun hv2 => ?_); rw [h8] at hv2) | refine ACallK.eq (RowFrom_impl _ _ _ _ _ (by assumption) (by first | assumption | exact SlR.sub' (by assumption))) ?_ | refine acond_decF (by omega) ?_ | (refine aK_sl (by assumption) (by omega) ?_; first | rintro _ ⟨rfl, _⟩ | (intro _ hx; obtain ⟨_, rfl, _, _⟩ := EvD.out hx) | (intro _ hx; obtain ⟨_, _, rfl, _, _, _⟩ := JobD.out hx) | rintro _ ⟨_, rfl, _⟩) | simp -implicitDefEqProofs (disch := omega) only [wrap_in, u8_small, Int.tmod_eq_emod_of_nonneg, Int.tdiv_eq_ediv_of_nonneg] | ((with_reducible refine adraw_plan [(0, []), (1, []), (5, []), (6, []), (7, []), (8, []), (9, []), (2, [0, 5, 6, 7, 8, 9]), (3, []), (4, []), (10, []), (11, [])] ?_ ?_ ?_); (· kernel_rfl); (· decide +kernel)) | refine retK_back (by assumption) ?_ | (with_reducible refine And.intro ?_ ?_))
    all_goals first
      | (rw [hri]; done)
      | (exfalso; omega)
      | trace_state
  · rw [rowIn_bad (by by_cases h : cellsOk a = true; (have hq : ¬ 0 ≤ slotBase b s := fun k => hb ⟨h, k⟩); exact .inr (by omega); exact .inl (by simpa using h))]
    cases h : cellsOk a with
    | true =>
      have hneg : slotBase b s < 0 := by
        by_cases k : 0 ≤ slotBase b s
        · exact absurd ⟨h, k⟩ hb
        · omega
      repeat' (first | simp -implicitDefEqProofs only [go_sem] | refine ACallK.eq (CellsOk_impl _ _ a _ (SlR.sub' ha)) ?_ | (rw [h]) | refine ACallK.eq (SlotBase_impl _ _ _ _) ?_ | (simp only [hneg, decide_true]) | refine retK_back (by assumption) ?_ | fail)
      all_goals first | rfl | (exfalso; omega) | trace_state
    | false =>
      repeat' (first | simp -implicitDefEqProofs only [go_sem] | refine ACallK.eq (CellsOk_impl _ _ a _ (SlR.sub' ha)) ?_ | (rw [h]) | refine ACallK.eq (SlotBase_impl _ _ _ _) ?_ | refine retK_back (by assumption) ?_ | fail)
      all_goals first | rfl | (exfalso; omega) | trace_state
end Go.Proofs.YtipfnhfcoolhaaaGreat.Aw
end
section
namespace Go.Proofs.YtipfnhfcoolhaaaGreat.Aw
open Go Go.RowKit
set_option maxRecDepth 100000
set_option maxHeartbeats 2000000
theorem put_ok (W0 : World) (v : AV) (l : List RowD) (r : RowD) (S : List Nat) (H : AH) (ho : OwnS H S v l) (hn : S.Nodup) (hs : SortedK RowD.key l) (hl : l.length ≤ 1000) (hr : rowB r) :
    ACalls Tryz.prog W0 137 [v, .agg (rowCells r)] H (fun u H' => ∃ S', OwnS H' S' u (addRow l r) ∧ Upd S H H' S') := by
  refine acallw Tryz.func137 rfl (by kernel_rfl) (by kernel_rfl) fun hc hw => ?_
  simp only [rowCells]
  have hsl := ho.slr (W0 := W0)
  have hlt := fun b hb => hw.lt' (ho.isin b hb)
  repeat' (first | simp -implicitDefEqProofs only [go_sem] | (refine ACallK.of (BinarySearchFuncRow_ok _ _ l r.key _ _ (SlR.sub' hsl) hs (fun cs x hx => put1_ok _ _ _ _ _ hx)) ?_; rintro _ _ ⟨⟨i, hA, rfl⟩, rfl⟩) | refine ACallK.eq (Quiet_impl _ _ r _ ⟨rfl, hr⟩) ?_ | refine agrd_decf (fun _ => ?_) (fun _ => ?_) | refine acond_split (fun _ => ?_) (fun _ => ?_) | refine agrd_bf (fun _ => ?_) (fun _ => ?_))
  all_goals first
    | (have e : addRow l r = l := by { unfold addRow putK; simp_all }
       rw [e]; exact retK_one ⟨S, ho.sub (by repeat (first | exact Sub.refl _ | assumption | refine Sub.new (by assumption) ?_ _ _ | refine Sub.kill_new (by assumption) ?_ _ _ | refine Sub.trans ?_ (by assumption))), Upd.idle (by repeat (first | exact Sub.refl _ | assumption | refine Sub.new (by assumption) ?_ _ _ | refine Sub.kill_new (by assumption) ?_ _ _ | refine Sub.trans ?_ (by assumption))) hn⟩)
    | skip
  have e : addRow l r = l.take i ++ r :: l.drop i := by
    rw [← hA.ins (by simp_all)]; unfold addRow putK; simp_all
  refine ACallK.of (InsertRowD_ok _ _ l r i _ S _ (ho.sub (by repeat (first | exact Sub.refl _ | assumption | refine Sub.new (by assumption) ?_ _ _ | refine Sub.kill_new (by assumption) ?_ _ _ | refine Sub.trans ?_ (by assumption)))) hA.1 (by omega) hr (by simp only [go_sem]; rfl) ?_) ?_
  · intro h; have := hlt _ h; omega
  rintro u H' ⟨S', h1, h2⟩
  repeat' (first | simp -implicitDefEqProofs only [go_sem])
  rw [e]
  exact retK_one ⟨S', h1, h2.start (by repeat (first | exact Sub.refl _ | assumption | refine Sub.new (by assumption) ?_ _ _ | refine Sub.kill_new (by assumption) ?_ _ _ | refine Sub.trans ?_ (by assumption)))⟩
end Go.Proofs.YtipfnhfcoolhaaaGreat.Aw
end
section
namespace Go.Proofs.YtipfnhfcoolhaaaGreat.Aw
open Go Go.RowKit
set_option maxRecDepth 100000
set_option maxHeartbeats 2000000
attribute [-go_sem] aapp2_some
theorem acc2 {α : Type} [Ob α] [Own α] [Flat α] {K : Kt} {H : AH} {B : Option Blk} {new : List AV} {s by' z b n : Nat} {xs : List α} {r : α} (hB : B = some ⟨encL xs, s⟩) (hn : n = xs.length) (hnew : new = Flat.enc r) (hx : ∀ x ∈ xs, Flat.ok x) (hr : Flat.ok r) (hs : s = Ob.n α) (k : K.k (.sl H.nxt 0 (xs.length + 1)) ((H.kill b).new (encL (xs ++ [r])) s))
    (g0 : 0 < s := by decide) (g1 : 0 < by' := by decide) (g2 : z = s := by rfl) (g3 : (xs.length + 1) * by' ≤ 140737488355328 := by omega) : aapp2 (K := K) B (some new) s by' z b 0 n 1 H := by
  subst hB hn hnew
  rw [aapp2_some]
  have hl := encL_len hx
  refine ⟨g0, g1, g2, ?_, rfl, by rw [hl, hs]; omega, g3, ?_⟩
  · have h1 := all_encL (xs := [r]) (by simpa using hr); simpa [encL] using h1
  · rw [List.drop_zero, List.take_of_length_le (by rw [hl, hs]; exact Nat.le_refl _)]
    have e : encL xs ++ Flat.enc r = encL (xs ++ [r]) := by rw [encL_append]; simp [encL]
    rw [e]; exact k
def putTo (l : List RowD) (r : RowD) (i : Nat) : List RowD := if gtAny (kf := RowD.key) (l.take i) r.key = true then insK RowD.key (l.take i) r else l.take i
theorem putTo_zero (l : List RowD) (r : RowD) : putTo l r 0 = [] := by simp [putTo, gtAny]
theorem gtAny_succ (l : List RowD) (key : ByteArray) {i : Nat} (h : i < l.length) : gtAny (kf := RowD.key) (l.take (i + 1)) key = (gtAny (kf := RowD.key) (l.take i) key || decide (klt key l[i].key)) := by
  unfold gtAny; rw [List.take_succ_eq_append_getElem h, List.any_append]; simp
theorem putTo_succ (l : List RowD) (r : RowD) {i : Nat} (h : i < l.length) : putTo l r (i + 1) = if gtAny (kf := RowD.key) (l.take i) r.key = true then putTo l r i ++ [l[i]] else if klt r.key l[i].key then (putTo l r i ++ [r]) ++ [l[i]] else putTo l r i ++ [l[i]] := by
  unfold putTo
  rw [gtAny_succ _ _ h, List.take_succ_eq_append_getElem h]
  rw [insK_snoc]
  by_cases g : gtAny (kf := RowD.key) (l.take i) r.key = true
  · rw [g]; simp
  · by_cases k : klt r.key l[i].key
    · simp only [Bool.not_eq_true] at g; rw [g]; simp [k]
    · simp only [Bool.not_eq_true] at g; rw [g]; simp [k]
theorem putTo_length (l : List RowD) (r : RowD) (i : Nat) : (putTo l r i).length ≤ i + 1 := by
  unfold putTo; split
  · rw [insK_length]; simp; omega
  · simp; omega
theorem putTo_ok {l : List RowD} {r : RowD} (h : ∀ x ∈ l, Flat.ok x) (hr : Flat.ok r) (i : Nat) : ∀ x ∈ putTo l r i, Flat.ok x := by
  unfold putTo; intro x hx
  split at hx
  · rcases mem_insK.1 hx with rfl | hx
    · exact hr
    · exact h x (List.mem_of_mem_take hx)
  · exact h x (List.mem_of_mem_take hx)
theorem l8Put_ok (W0 : World) (v : AV) (l : List RowD) (r : RowD) (S : List Nat) (H : AH) (ho : OwnS H S v l) (hn : S.Nodup) (hl : l.length ≤ 1000) (hr : rowB r) :
    ACalls Tryz.prog W0 125 [v, .agg (rowCells r)] H (fun u H' => ∃ S', OwnS H' S' u (putK RowD.key l r) ∧ Upd S H H' S') := by
  refine acallw Tryz.func125 rfl (by kernel_rfl) (by kernel_rfl) fun hc hw => ?_
  have hv := ho.slr (W0 := W0)
  have hok : ∀ x ∈ l, Flat.ok x := by
    rcases ho.flat with ⟨-, rfl, -⟩ | ⟨b, o, cs, -, -, -, -, -, -, h⟩
    · intro x hx; cases hx
    · exact h
  simp only [rowCells]
  repeat' (first | simp -implicitDefEqProofs only [go_sem])
  have hw0 : (H.new [AV.v (Value.string r.key), AV.v (Value.int IntKind.i64 r.kind), AV.v (Value.int IntKind.i64 r.sum), AV.v (Value.bool r.set), AV.v (Value.int IntKind.i64 r.last), AV.v (Value.int IntKind.i64 r.n), AV.v (Value.int IntKind.i64 r.mn), AV.v (Value.int IntKind.i64 r.mx), AV.v (Value.int IntKind.i64 r.total), AV.v (Value.int IntKind.i64 r.dropped)] 10).wf := hw.new _ _
  refine acode_while (fun (p : Nat × Nat) => [(0, v), (3, .ptr H.nxt 0), (5, .sl p.2 0 (putTo l r p.1).length), (6, .v (.bool (gtAny (kf := RowD.key) (l.take p.1) r.key))), (7, .v (.int .i64 p.1))]) (fun p H' => Sub (H.new (rowCells r) 10) H' ∧ p.1 ≤ l.length ∧ hasK RowD.key (l.take p.1) r.key = false ∧ H.nxt + 1 ≤ p.2 ∧ p.2 < H'.nxt ∧ H'.blk p.2 = some ⟨encL (putTo l r p.1), 10⟩) (fun p => l.length - p.1) (0, H.nxt + 1) ?_ ?_ (by simp only [frOk, go_sem, putTo_zero]; simp [gtAny])
  · refine ⟨by repeat (first | exact Sub.refl _ | assumption | refine Sub.new (by assumption) ?_ _ _ | refine Sub.kill_new (by assumption) ?_ _ _ | refine Sub.trans ?_ (by assumption)), by simp only; omega, by simp [hasK], by simp only; omega, by simp only [go_sem]; omega, by simp only [go_sem, putTo_zero]; rfl⟩
  rintro ⟨i, b⟩ H' ⟨hs, hi, hP, hb, hbl, hB⟩
  simp only at hi hP hb hbl hB ⊢
  have hbn : b ≠ H'.nxt := by omega
  have hpl := putTo_length l r i
  have hpo := putTo_ok hok hr i
  have hli : ∀ (h : i < l.length), Flat.ok l[i] := fun h => hok _ (List.getElem_mem h)
  have hpo2 : ∀ x ∈ putTo l r i ++ [r], Flat.ok x := by intro x hx; rcases List.mem_append.1 hx with hx | hx; exact hpo x hx; rw [List.mem_singleton.1 hx]; exact hr
  have hb0 : H.nxt ≤ b := by omega
  have hb0' : (H.new (rowCells r) 10).nxt ≤ b := by simp only [go_sem]; omega
  have hP2 := putTo_succ l r (i := i)
  have hs0 : Sub H H' := (Sub.new hw (Sub.refl _) _ _).trans hs
  have hs1 := hs
  have hlp : ∀ (h : i < l.length), hasK RowD.key (l.take (i + 1)) r.key = (hasK RowD.key (l.take i) r.key || decide (l[i].key = r.key)) := fun h => by
    unfold hasK; rw [List.take_succ_eq_append_getElem h, List.any_append]; simp
  repeat' (first | simp -implicitDefEqProofs only [go_sem] | (simp only [if_neg hbn, hB]) | (refine aixs_sln (by assumption) ?_ (by repeat (first | exact Sub.refl _ | assumption | refine Sub.new (by assumption) ?_ _ _ | refine Sub.kill_new (by assumption) ?_ _ _ | refine Sub.kill (by assumption) ?_ (by first | omega | (simp only [go_sem]; omega)) | refine Sub.trans ?_ (by assumption)))) | (refine aK_sl (by assumption) (by omega) ?_ (by repeat (first | exact Sub.refl _ | assumption | refine Sub.new (by assumption) ?_ _ _ | refine Sub.kill_new (by assumption) ?_ _ _ | refine Sub.kill (by assumption) ?_ (by first | omega | (simp only [go_sem]; omega)) | refine Sub.trans ?_ (by assumption))); rintro _ ⟨rfl, _⟩) | (refine acc2 (xs := putTo l r i) (r := r) rfl rfl rfl hpo hr rfl ?_) | (refine acc2 (xs := putTo l r i) (r := l[i]) rfl rfl rfl hpo (hli _) rfl ?_) | (refine acc2 (xs := putTo l r i ++ [r]) (r := l[i]) rfl (by simp) rfl hpo2 (hli _) rfl ?_ (by decide) (by decide) rfl (by simp only [List.length_append, List.length_singleton]; omega)) | refine acond_dec (fun _ => ?_) (fun _ => ?_) | refine abi_len_sl' (by assumption) ?_ | refine afa_sl (by assumption) ?_ | simp -implicitDefEqProofs (disch := omega) only [wrap_in, u8_small, Int.tmod_eq_emod_of_nonneg, Int.tdiv_eq_ediv_of_nonneg] | refine aK_sub (by assumption) ?_ | ((with_reducible refine adraw_seq ?_ ?_ ?_); (· kernel_rfl); (· decide +kernel)) | simp -implicitDefEqProofs only [go_sem, slCells_own, aapp_own] | refine acond_split (fun _ => ?_) (fun _ => ?_) | refine agrd_bt (fun _ => ?_) (fun _ => ?_))
  · have hil : i < l.length := by omega
    have e : putK RowD.key l r = l := by
      unfold putK
      rw [if_pos]
      exact List.any_eq_true.2 ⟨l[i], List.getElem_mem hil, decide_eq_true (by assumption)⟩
    rw [e]
    exact retK_one ⟨S, ho.sub hs0, Upd.idle hs0 hn⟩
  · have hil : i < l.length := by omega
    have hg : gtAny (kf := RowD.key) (l.take i) r.key = false := by simp_all
    have hk : klt r.key l[i].key := klt_gtr (by simp_all) (by assumption)
    have e := hP2 hil
    rw [hg, if_neg (by decide), if_pos hk] at e
    have e2 := gtAny_succ l r.key hil
    rw [hg, decide_eq_true hk] at e2
    refine back (i + 1, H'.nxt + 3) ⟨by repeat (first | exact Sub.refl _ | assumption | refine Sub.new (by assumption) ?_ _ _ | refine Sub.kill_new (by assumption) ?_ _ _ | refine Sub.kill (by assumption) ?_ (by first | omega | (simp only [go_sem]; omega)) | refine Sub.trans ?_ (by assumption)), by simp only; omega, by simp only; rw [hlp hil, hP, decide_eq_false (by assumption)]; rfl, by simp only; omega, by simp only [go_sem]; omega, ?_⟩ (by simp only; omega) ?_
    · simp only [e]; simp only [go_sem]
    · simp only [frOk, go_sem, e, e2]; simp
  · have hil : i < l.length := by omega
    have hg : gtAny (kf := RowD.key) (l.take i) r.key = false := by simp_all
    have hk : ¬ klt r.key l[i].key := fun h => by
      have h1 := klt_asymm h
      unfold klt at h1; simp_all
    have e := hP2 hil
    rw [hg, if_neg (by decide), if_neg hk] at e
    have e2 := gtAny_succ l r.key hil
    rw [hg, decide_eq_false hk] at e2
    refine back (i + 1, H'.nxt + 1) ⟨by repeat (first | exact Sub.refl _ | assumption | refine Sub.new (by assumption) ?_ _ _ | refine Sub.kill_new (by assumption) ?_ _ _ | refine Sub.kill (by assumption) ?_ (by first | omega | (simp only [go_sem]; omega)) | refine Sub.trans ?_ (by assumption)), by simp only; omega, by simp only; rw [hlp hil, hP, decide_eq_false (by assumption)]; rfl, by simp only; omega, by simp only [go_sem]; omega, ?_⟩ (by simp only; omega) ?_
    · simp only [e]; simp only [go_sem]
    · simp only [frOk, go_sem, e, e2, hg]; simp
  · have hil : i < l.length := by omega
    have hg : gtAny (kf := RowD.key) (l.take i) r.key = true := by simp_all
    have e := hP2 hil
    rw [if_pos hg] at e
    have e2 := gtAny_succ l r.key hil
    rw [hg] at e2
    refine back (i + 1, H'.nxt + 1) ⟨by repeat (first | exact Sub.refl _ | assumption | refine Sub.new (by assumption) ?_ _ _ | refine Sub.kill_new (by assumption) ?_ _ _ | refine Sub.kill (by assumption) ?_ (by first | omega | (simp only [go_sem]; omega)) | refine Sub.trans ?_ (by assumption)), by simp only; omega, by simp only; rw [hlp hil, hP, decide_eq_false (by assumption)]; rfl, by simp only; omega, by simp only [go_sem]; omega, ?_⟩ (by simp only; omega) ?_
    · simp only [e]; simp only [go_sem]
    · simp only [frOk, go_sem, e, e2, hg]; simp
  · have hil : i = l.length := by omega
    subst hil
    have hg : gtAny (kf := RowD.key) l r.key = false := by simp_all
    have e : putK RowD.key l r = putTo l r l.length ++ [r] := by
      unfold putK putTo
      rw [List.take_length] at hP ⊢
      rw [hP, hg, if_neg (by decide), if_neg (by decide), insK_none hg]
    rw [e]
    refine retK_one ⟨[H'.nxt + 1], OwnS.ofFlat (cs := encL (putTo l r l.length ++ [r])) (by simp only [go_sem]; rfl) ?_ ?_ (by simp only [big, List.length_append, List.length_singleton]; omega) hpo2 (by simp), Upd.ofSub (by repeat (first | exact Sub.refl _ | assumption | refine Sub.new (by assumption) ?_ _ _ | refine Sub.kill_new (by assumption) ?_ _ _ | refine Sub.kill (by assumption) ?_ (by first | omega | (simp only [go_sem]; omega)) | refine Sub.trans ?_ (by assumption))) ⟨by simp, by intro x hx; simp at hx; omega⟩⟩
    · rw [List.drop_zero]; exact List.take_of_length_le (by rw [encL_len hpo2]; exact Nat.le_refl _)
    · rw [encL_len hpo2]; omega
  · have hil : i = l.length := by omega
    subst hil
    have hg : gtAny (kf := RowD.key) l r.key = true := by simp_all
    have e : putK RowD.key l r = putTo l r l.length := by
      unfold putK putTo
      rw [List.take_length] at hP ⊢
      rw [hP, if_neg (by decide), if_pos hg]
    rw [e]
    refine retK_one ⟨[b], OwnS.ofFlat (cs := encL (putTo l r l.length)) hB ?_ ?_ (by simp only [big]; omega) hpo rfl, Upd.ofSub hs0 ⟨by simp, by intro x hx; simp at hx; omega⟩⟩
    · rw [List.drop_zero]; exact List.take_of_length_le (by rw [encL_len hpo]; exact Nat.le_refl _)
    · rw [encL_len hpo]; omega
end Go.Proofs.YtipfnhfcoolhaaaGreat.Aw
end
section
namespace Go.Proofs.YtipfnhfcoolhaaaGreat.Aw
open Go Go.RowKit
set_option maxRecDepth 100000
set_option maxHeartbeats 2000000
theorem InCell_spec (W0 : World) (b : Int) (H : AH) : ACalls Tryz.prog W0 123 [.v (.int .i64 b)] H (fun v H' => v = .v (.int .i64 (if 0 ≤ b ∧ b ≤ 1 then 1 + b else -1)) ∧ H' = H) := by
  refine acallw Tryz.func123 rfl (by kernel_rfl) (by kernel_rfl) fun hc hw => ?_
  repeat' (first | simp -implicitDefEqProofs only [go_sem] | refine acond_ndec (fun _ => ?_) (fun _ => ?_) | simp -implicitDefEqProofs (disch := omega) only [wrap_in, u8_small, Int.tmod_eq_emod_of_nonneg, Int.tdiv_eq_ediv_of_nonneg] | refine ACallK.eq (l1In_ok _ _ _ _ _) ?_ | refine retK_eq ?_)
  all_goals first
    | (rw [if_pos (by omega)]; done)
    | (rw [if_neg (by omega)]; done)
theorem reportIn_bad {a : List Int} {b : Int} (h : cellsOk a = false ∨ ¬ (0 ≤ b ∧ b ≤ 1)) : reportIn a b = [] := by
  have h2 : ∀ s : Int, rowIn a b s = row0 := fun s => rowIn_bad (h.imp id fun h => by unfold slotBase; rw [if_neg (fun k => h k.1)]; decide)
  have h3 : ∀ n, reportTo a b n = [] := by
    intro n
    induction n with
    | zero => rfl
    | succ n ih => simp [reportTo, ih, h2, addRow, row0]
  exact h3 4
theorem ownS_nil {α : Type} [Ob α] [Own α] [Flat α] {H : AH} {b : Nat} (h : H.blk b = some ⟨[], Ob.n α⟩) : OwnS H [b] (.sl b 0 0) ([] : List α) := OwnS.ofFlat (cs := []) h (by simp [encL]) (by simp) (by simp) (by simp) rfl
theorem ReportIn_spec (W0 : World) (v : AV) (a : List Int) (b : Int) (H : AH) (ha : SlR W0 H v a) : ACalls Tryz.prog W0 44 [v, .v (.int .i64 b)] H (fun u H' => NewS H H' u (reportIn a b)) := by
  refine acallw Tryz.func44 rfl (by kernel_rfl) (by kernel_rfl) fun hc hw => ?_
  have hB := getD_I ha
  by_cases hp : cellsOk a = true ∧ (0 ≤ b ∧ b ≤ 1)
  · obtain ⟨p1, p2⟩ := hp
    repeat' (first | simp -implicitDefEqProofs only [go_sem] | (refine ACallK.eq (CellsOk_spec _ _ a _ (SlR.sub' ha)) ?_; rw [p1]) | (refine ACallK.eq (InCell_spec _ _ _) ?_; rw [if_pos p2]) | refine acond_decF (by omega) ?_ | fail)
    refine acode_while (fun (p : Nat × AV) => [(0, v), (1, .v (.int .i64 b)), (5, p.2), (6, .v (.int .i64 p.1))]) (fun p H' => H'.wf ∧ Sub H H' ∧ p.1 ≤ 4 ∧ ∃ S, OwnS H' S p.2 (reportTo a b p.1) ∧ S.Nodup ∧ ∀ x ∈ S, H.nxt ≤ x) (fun p => 4 - p.1) (0, .sl H.nxt 0 0) ?_ ?_
    · exact ⟨hw.new _ _, by repeat (first | exact Sub.refl _ | assumption | refine Sub.new (by assumption) ?_ _ _ | refine Sub.kill_new (by assumption) ?_ _ _ | refine Sub.trans ?_ (by assumption)), by simp only; omega, [H.nxt], ownS_nil (by simp only [go_sem]; rfl), by simp, by simp⟩
    rintro ⟨i, u⟩ H' ⟨hw', hs, hi, S, ho, hn, hS⟩
    simp only at hi ho ⊢
    repeat' (first | simp -implicitDefEqProofs only [go_sem] | (refine ACallK.eq (RowIn_spec _ _ a b i _ (SlR.sub' ha)) ?_; simp only [rowCells]) | refine ACallK.eq (Quiet_spec _ _ (rowIn a b i) _ ⟨rfl, rowIn_B _ _ hB⟩) ?_ | refine acond_dec (fun _ => ?_) (fun _ => ?_) | refine agrd_ndec (fun _ => ?_) (fun _ => ?_) | simp -implicitDefEqProofs (disch := omega) only [wrap_in, u8_small, Int.tmod_eq_emod_of_nonneg, Int.tdiv_eq_ediv_of_nonneg] | refine acond_split (fun _ => ?_) (fun _ => ?_))
    · have hr := rowIn_B b (i : Int) hB
      have e : addRow (reportTo a b i) (rowIn a b i) = putK RowD.key (reportTo a b i) (rowIn a b i) := by unfold addRow; simp_all
      refine ACallK.of (l8Put_ok _ u (reportTo a b i) (rowIn a b i) S _ (ho.sub (by repeat (first | exact Sub.refl _ | assumption | refine Sub.new (by assumption) ?_ _ _ | refine Sub.kill_new (by assumption) ?_ _ _ | refine Sub.trans ?_ (by assumption)))) hn (Nat.le_trans (reportTo_length a b i) (by omega)) hr).cl ?_
      rintro u2 H2 ⟨⟨S2, h1, h2⟩, h3⟩
      have h4 := (h2.start (H := H') (by repeat (first | exact Sub.refl _ | assumption | refine Sub.new (by assumption) ?_ _ _ | refine Sub.kill_new (by assumption) ?_ _ _ | refine Sub.trans ?_ (by assumption)))).sub hw hs hS
      repeat' (first | simp -implicitDefEqProofs only [go_sem] | simp -implicitDefEqProofs (disch := omega) only [wrap_in, u8_small, Int.tmod_eq_emod_of_nonneg, Int.tdiv_eq_ediv_of_nonneg])
      exact back (i + 1, u2) ⟨h3.1, h4.1, by simp only; omega, S2, by simp only [reportTo, e]; exact h1, h2.2.2.2, h4.2⟩ (by simp only; omega)
    · have e : addRow (reportTo a b i) (rowIn a b i) = reportTo a b i := by unfold addRow; simp_all
      exact back (i + 1, u) ⟨hw'.new _ _, by repeat (first | exact Sub.refl _ | assumption | refine Sub.new (by assumption) ?_ _ _ | refine Sub.kill_new (by assumption) ?_ _ _ | refine Sub.trans ?_ (by assumption)), by simp only; omega, S, by simp only [reportTo, e]; exact ho.sub (by repeat (first | exact Sub.refl _ | assumption | refine Sub.new (by assumption) ?_ _ _ | refine Sub.kill_new (by assumption) ?_ _ _ | refine Sub.trans ?_ (by assumption))), hn, hS⟩ (by simp only; omega)
    · have e : addRow (reportTo a b i) (rowIn a b i) = reportTo a b i := by unfold addRow; simp_all
      exact back (i + 1, u) ⟨hw'.new _ _, by repeat (first | exact Sub.refl _ | assumption | refine Sub.new (by assumption) ?_ _ _ | refine Sub.kill_new (by assumption) ?_ _ _ | refine Sub.trans ?_ (by assumption)), by simp only; omega, S, by simp only [reportTo, e]; exact ho.sub (by repeat (first | exact Sub.refl _ | assumption | refine Sub.new (by assumption) ?_ _ _ | refine Sub.kill_new (by assumption) ?_ _ _ | refine Sub.trans ?_ (by assumption))), hn, hS⟩ (by simp only; omega)
    · obtain rfl : i = 4 := by omega
      exact retK_one ⟨hs, S, ho, hn, hS⟩
  · rw [reportIn_bad (by by_cases h : cellsOk a = true; exact .inr fun k => hp ⟨h, k⟩; exact .inl (by simpa using h))]
    have hend : NewS H (H.new [] 10) (.sl H.nxt 0 0) ([] : List RowD) := ⟨by repeat (first | exact Sub.refl _ | assumption | refine Sub.new (by assumption) ?_ _ _ | refine Sub.kill_new (by assumption) ?_ _ _ | refine Sub.trans ?_ (by assumption)), [H.nxt], ownS_nil (by simp only [go_sem]; rfl), by simp, by simp⟩
    repeat' (first | simp -implicitDefEqProofs only [go_sem] | refine ACallK.eq (CellsOk_spec _ _ a _ (SlR.sub' ha)) ?_ | refine ACallK.eq (InCell_spec _ _ _) ?_ | (exact retK_one hend) | refine acond_dec (fun _ => ?_) (fun _ => ?_) | refine agrd_bf (fun _ => ?_) (fun _ => ?_))
    all_goals (exfalso; rename_i h1 h2; split at h2 <;> first | (exact hp ⟨by simpa using h1, by omega⟩) | omega)
theorem ReportIn_impl (W0 : World) (v : AV) (a : List Int) (b : Int) (H : AH) (ha : SlR W0 H v a) : ACalls Tryz.prog W0 54 [v, .v (.int .i64 b)] H (fun u H' => NewS H H' u (reportIn a b)) := by
  refine acallw Tryz.func54 rfl (by kernel_rfl) (by kernel_rfl) fun hc hw => ?_
  have hB := getD_I ha
  repeat' (first | simp -implicitDefEqProofs only [go_sem])
  refine acode_while (fun (p : Nat × AV) => [(0, v), (1, .v (.int .i64 b)), (5, p.2), (8, .v (.int .i64 p.1))]) (fun p H' => H'.wf ∧ Sub H H' ∧ p.1 ≤ 4 ∧ ∃ S, OwnS H' S p.2 (reportTo a b p.1) ∧ S.Nodup ∧ ∀ x ∈ S, H.nxt ≤ x) (fun p => 4 - p.1) (0, .sl H.nxt 0 0) ?_ ?_
  · exact ⟨hw.new _ _, by repeat (first | exact Sub.refl _ | assumption | refine Sub.new (by assumption) ?_ _ _ | refine Sub.kill_new (by assumption) ?_ _ _ | refine Sub.trans ?_ (by assumption)), by simp only; omega, [H.nxt], ownS_nil (by simp only [go_sem]; rfl), by simp, by simp⟩
  rintro ⟨i, u⟩ H' ⟨hw', hs, hi, S, ho, hn, hS⟩
  simp only at hi ho ⊢
  repeat' (first | simp -implicitDefEqProofs only [go_sem] | (refine ACallK.eq (RowIn_impl _ _ a b i _ (SlR.sub' ha)) ?_) | refine acond_dec (fun _ => ?_) (fun _ => ?_))
  · have hr := rowIn_B b (i : Int) hB
    refine ACallK.of (put_ok _ u (reportTo a b i) (rowIn a b i) S _ (ho.sub (by repeat (first | exact Sub.refl _ | assumption | refine Sub.new (by assumption) ?_ _ _ | refine Sub.kill_new (by assumption) ?_ _ _ | refine Sub.trans ?_ (by assumption)))) hn (reportTo_sorted a b i) (Nat.le_trans (reportTo_length a b i) (by omega)) hr).cl ?_
    rintro u2 H2 ⟨⟨S2, h1, h2⟩, h3⟩
    have h4 := (h2.start (H := H') (by repeat (first | exact Sub.refl _ | assumption | refine Sub.new (by assumption) ?_ _ _ | refine Sub.kill_new (by assumption) ?_ _ _ | refine Sub.trans ?_ (by assumption)))).sub hw hs hS
    repeat' (first | simp -implicitDefEqProofs only [go_sem] | simp -implicitDefEqProofs (disch := omega) only [wrap_in, u8_small, Int.tmod_eq_emod_of_nonneg, Int.tdiv_eq_ediv_of_nonneg])
    exact back (i + 1, u2) ⟨h3.1, h4.1, by simp only; omega, S2, by simp only [reportTo]; exact h1, h2.2.2.2, h4.2⟩ (by simp only; omega)
  · obtain rfl : i = 4 := by omega
    exact retK_one ⟨hs, S, ho, hn, hS⟩
end Go.Proofs.YtipfnhfcoolhaaaGreat.Aw
end
section
namespace Go.Proofs.YtipfnhfcoolhaaaGreat.Aw
open Go
set_option maxHeartbeats 1000000
section
variable {α : Type} {kf : α → ByteArray}
theorem adj_sorted {l : List α} (h : ∀ i (hi : i + 1 < l.length), klt (kf l[i]) (kf l[i + 1])) : SortedK kf l := by
  refine List.pairwise_iff_getElem.2 ?_
  intro i j hi hj hij
  induction j with
  | zero => omega
  | succ j ih =>
    rcases Nat.lt_or_ge i j with h1 | h1
    · exact klt_trans (ih (by omega) h1) (h j hj)
    · obtain rfl : i = j := by omega
      exact h i hj
theorem SortedK.filter {l : List α} (h : SortedK kf l) (p : α → Bool) : SortedK kf (l.filter p) := List.Pairwise.filter p h
def butK (kf : α → ByteArray) (l : List α) (key : ByteArray) : List α := l.filter fun x => !decide (kf x = key)
theorem butK_none {l : List α} {key : ByteArray} (h : hasK kf l key = false) : butK kf l key = l := by
  simp only [hasK, List.any_eq_false, decide_eq_true_eq] at h
  rw [butK, List.filter_eq_self]
  intro x hx
  simp [h x hx]
theorem butK_at : ∀ {l : List α} {key : ByteArray} {i : Nat} (hs : SortedK kf l) (hi : i < l.length) (hk : kf l[i] = key), butK kf l key = l.take i ++ l.drop (i + 1)
  | x :: l, key, 0, hs, hi, hk => by
    unfold SortedK at hs
    rw [List.pairwise_cons] at hs
    simp only [List.getElem_cons_zero] at hk
    have h2 : hasK kf l key = false := by
      simp only [hasK, List.any_eq_false, decide_eq_true_eq]
      rintro y hy rfl
      exact klt_irrefl _ (hk ▸ hs.1 y hy)
    have := butK_none h2
    simp only [butK] at this ⊢
    simp [List.filter_cons, hk, this]
  | x :: l, key, i + 1, hs, hi, hk => by
    unfold SortedK at hs
    rw [List.pairwise_cons] at hs
    simp only [List.getElem_cons_succ] at hk
    have h2 : ¬ kf x = key := by
      rintro rfl
      have := hs.1 _ (List.getElem_mem (by simpa using hi : i < l.length))
      rw [hk] at this
      exact klt_irrefl _ this
    have := butK_at hs.2 (by simpa using hi) hk
    simp only [butK] at this ⊢
    simp [List.filter_cons, h2, this]
theorem hasK_iff {l : List α} {key : ByteArray} : hasK kf l key = true ↔ ∃ x ∈ l, kf x = key := by simp [hasK]
end
theorem keyLe_not {a b : ByteArray} (h : keyLe a b = false) : klt b a := by
  unfold keyLe at h
  simp only [Bool.or_eq_false_iff, decide_eq_false_iff_not] at h
  rcases klt_tri a b with h1 | h1 | h1
  · unfold klt at h1; rw [h1] at h; cases h.1
  · exact absurd h1 h.2
  · exact h1
theorem not_keyLe {a b : ByteArray} (h : klt b a) : keyLe a b = false := by
  unfold keyLe
  simp only [Bool.or_eq_false_iff, decide_eq_false_iff_not]
  refine ⟨?_, ?_⟩
  · have := klt_asymm h
    unfold klt at this
    simpa using this
  · rintro rfl; exact klt_irrefl _ h
theorem getD_in {α : Type} {l : List α} {i : Nat} (h : i < l.length) (d : α) : l.getD i d = l[i] := by
  rw [List.getD_eq_getElem?_getD, List.getElem?_eq_getElem h]; rfl
theorem reportOk_iff {l : List RowD} : reportOk l = true ↔ SortedK RowD.key l ∧ l.length ≤ 4 ∧ ∀ r ∈ l, rowP r ∧ quiet r = false := by
  unfold reportOk
  rw [Bool.and_eq_true, List.all_eq_true, decide_eq_true_eq]
  constructor
  · rintro ⟨h, h4⟩
    refine ⟨adj_sorted fun i hi => ?_, by omega, fun r hr => ?_⟩
    · have := h (i + 1) (List.mem_range.2 hi)
      simp only [repAt, Bool.and_eq_true, Bool.or_eq_true, decide_eq_true_eq, Nat.add_sub_cancel, Bool.not_eq_true'] at this
      rw [getD_in hi, getD_in (by omega)] at this
      exact keyLe_not (this.2.resolve_left (by omega))
    · obtain ⟨i, hi, rfl⟩ := List.mem_iff_getElem.1 hr
      have := h i (List.mem_range.2 hi)
      simp only [repAt, Bool.and_eq_true, getD_in hi, Bool.not_eq_true'] at this
      exact ⟨of_decide_eq_true this.1.1, this.1.2⟩
  · rintro ⟨hs, h4, h⟩
    refine ⟨fun i hi => ?_, by omega⟩
    have hi := List.mem_range.1 hi
    have h1 := h _ (List.getElem_mem hi)
    simp only [repAt, Bool.and_eq_true, Bool.or_eq_true, decide_eq_true_eq, Bool.not_eq_true', getD_in hi]
    refine ⟨⟨decide_eq_true h1.1, h1.2⟩, ?_⟩
    cases i with
    | zero => exact .inl rfl
    | succ i =>
      refine .inr ?_
      rw [Nat.add_sub_cancel, getD_in (by omega)]
      exact not_keyLe (List.pairwise_iff_getElem.1 hs i (i + 1) (by omega) hi (by omega))
theorem tagged_ne {key : ByteArray} {kind : Int} (h : ¬ tagged key kind = 0) : keyOk key = true ∧ 1 ≤ kind ∧ kind ≤ 3 := by
  unfold tagged at h
  split at h
  · assumption
  · exact absurd rfl h
theorem tagged_pos {key : ByteArray} {kind : Int} (h : keyOk key = true ∧ 1 ≤ kind ∧ kind ≤ 3) : ¬ tagged key kind = 0 := by
  have := packKey_bd key
  unfold tagged
  rw [if_pos h]
  omega
theorem modelOk_iff {m : ModelD} : modelOk m = true ↔ (SortedK KRowD.key m.keys ∧ m.keys.length ≤ 4 ∧ ∀ k ∈ m.keys, keyOk k.key = true ∧ 1 ≤ k.kind ∧ k.kind ≤ 3) ∧ (∀ r ∈ m.rows, modelKind m r.key = r.kind) ∧ reportOk m.rows = true := by
  unfold modelOk
  simp only [Bool.and_eq_true, List.all_eq_true, decide_eq_true_eq]
  constructor
  · rintro ⟨⟨⟨h1, h2⟩, h3⟩, h4⟩
    refine ⟨⟨adj_sorted fun i hi => ?_, by omega, fun r hr => ?_⟩, h2, h4⟩
    · have := h1 (i + 1) (List.mem_range.2 hi)
      simp only [keyAt, Bool.and_eq_true, Bool.or_eq_true, decide_eq_true_eq, Nat.add_sub_cancel, Bool.not_eq_true'] at this
      rw [getD_in hi, getD_in (by omega)] at this
      exact keyLe_not (this.2.resolve_left (by omega))
    · obtain ⟨i, hi, rfl⟩ := List.mem_iff_getElem.1 hr
      have := h1 i (List.mem_range.2 hi)
      simp only [keyAt, Bool.and_eq_true, getD_in hi, Bool.not_eq_true', decide_eq_false_iff_not] at this
      exact tagged_ne this.1
  · rintro ⟨⟨hs, h3, h1⟩, h2, h4⟩
    refine ⟨⟨⟨fun i hi => ?_, h2⟩, by omega⟩, h4⟩
    have hi := List.mem_range.1 hi
    have h5 := h1 _ (List.getElem_mem hi)
    simp only [keyAt, Bool.and_eq_true, Bool.or_eq_true, decide_eq_true_eq, Bool.not_eq_true', getD_in hi, decide_eq_false_iff_not]
    refine ⟨tagged_pos h5, ?_⟩
    cases i with
    | zero => exact .inl rfl
    | succ i =>
      refine .inr ?_
      rw [Nat.add_sub_cancel, getD_in (by omega)]
      exact not_keyLe (List.pairwise_iff_getElem.1 hs i (i + 1) (by omega) hi (by omega))
theorem modelKind_mem {m : ModelD} {key : ByteArray} (h : ¬ modelKind m key = 0) : ∃ k ∈ m.keys, k.key = key ∧ k.kind = modelKind m key := by
  unfold modelKind at h ⊢
  cases hf : m.keys.find? (fun k => decide (k.key = key)) with
  | none => rw [hf] at h; exact absurd rfl h
  | some k => exact ⟨k, List.mem_of_find?_eq_some hf, by simpa using List.find?_some hf, rfl⟩
def recRow (r : RowD) (v : Int) : RowD := if r.kind = 1 then counted r v else if r.kind = 2 then { r with set := true, last := v } else sampled r v
def recCode (r : RowD) : Int := if r.kind = 1 ∨ r.kind = 2 then 0 else if r.n = 3 then 5 else 0
def rowAnew (l : List RowD) (r : RowD) : List RowD := addRow (butK RowD.key l r.key) r
def modelDo (m : ModelD) (o : OpD) : ModelD × Int × List RowD :=
  if ¬ (modelOk m = true ∧ opOk o = true) then (m, 1, [])
  else if o.kind = 3 then (⟨m.keys, []⟩, 0, m.rows)
  else if o.kind = 2 then
    (if modelKind m o.key = 0 then (m, 2, []) else (⟨m.keys, rowAnew m.rows (recRow (modelRow m o.key) o.val)⟩, recCode (modelRow m o.key), []))
  else if modelKind m o.key = o.what then (m, 0, [])
  else if ¬ modelKind m o.key = 0 then (m, 4, [])
  else if (m.keys.length : Int) = 4 then (m, 3, [])
  else (⟨insK KRowD.key m.keys ⟨o.key, o.what⟩, m.rows⟩, 0, [])
theorem modelRow_ok {m : ModelD} {key : ByteArray} (hm : modelOk m = true) (hk : ¬ modelKind m key = 0) : (modelRow m key).key = key ∧ (modelRow m key).kind = modelKind m key ∧ rowP (modelRow m key) := by
  unfold modelRow
  obtain ⟨h1, h2, h3⟩ := modelOk_iff.1 hm
  cases hf : m.rows.find? (fun r => decide (r.key = key)) with
  | some r =>
    have h4 := List.mem_of_find?_eq_some hf
    have h5 : r.key = key := by simpa using List.find?_some hf
    refine ⟨h5, ?_, ((reportOk_iff.1 h3).2.2 r h4).1⟩
    rw [← h2 r h4, h5]
  | none =>
    simp only [if_neg hk]
    refine ⟨trivial, trivial, ?_⟩
    obtain ⟨k, hk1, hk2, hk3⟩ := modelKind_mem hk
    have h5 := h1.2.2 k hk1
    rw [hk3, hk2] at h5
    unfold rowP
    refine ⟨h5.1, ?_⟩
    simp only [row0]
    rcases (by omega : modelKind m key = 1 ∨ modelKind m key = 2 ∨ modelKind m key = 3) with h | h | h <;> rw [h] <;> simp [wordP, timerP]
theorem modelRow_zero {m : ModelD} {key : ByteArray} (hm : modelOk m = true) (hk : modelKind m key = 0) : modelRow m key = row0 := by
  unfold modelRow
  obtain ⟨h1, h2, h3⟩ := modelOk_iff.1 hm
  cases hf : m.rows.find? (fun r => decide (r.key = key)) with
  | some r =>
    exfalso
    have h4 := List.mem_of_find?_eq_some hf
    have h5 : r.key = key := by simpa using List.find?_some hf
    have h6 := h2 r h4
    have h7 := ((reportOk_iff.1 h3).2.2 r h4).1
    rw [h5, hk] at h6
    unfold rowP at h7
    rw [← h6] at h7
    simp at h7
  | none => simp [hk]
theorem counted_kind (r : RowD) (v : Int) : (counted r v).key = r.key ∧ (counted r v).kind = r.kind := by unfold counted; split <;> simp
theorem sampled_kind (r : RowD) (v : Int) : (sampled r v).key = r.key ∧ (sampled r v).kind = r.kind := by unfold sampled; split <;> (try split) <;> simp
theorem recRow_kind (r : RowD) (v : Int) : (recRow r v).key = r.key ∧ (recRow r v).kind = r.kind := by
  unfold recRow
  split
  · exact counted_kind r v
  · split
    · exact ⟨rfl, rfl⟩
    · exact sampled_kind r v
theorem modelKind_none {m : ModelD} {key : ByteArray} (hm : modelOk m = true) (h : modelKind m key = 0) : m.keys.find? (fun k => decide (k.key = key)) = none := by
  unfold modelKind at h
  cases hf : m.keys.find? (fun k => decide (k.key = key)) with
  | none => rfl
  | some k =>
    rw [hf] at h
    have := (modelOk_iff.1 hm).1.2.2 k (List.mem_of_find?_eq_some hf)
    simp only at h
    omega
end Go.Proofs.YtipfnhfcoolhaaaGreat.Aw
end
