/- Parts of a proof: Fv Fe Fh Ms2 Gz Ga Wp. -/
import Derived.Test.YtipfnhfcoolhaaaGreatK06
import Derived.Test.YtipfnhfcoolhaaaGreatK03
import Derived.Laws.BitsAllLaws
import Derived.Test.YtipfnhfcoolhaaaGreatK02
import Derived.Test.YtipfnhfcoolhaaaGreatK05
set_option linter.unusedVariables false
set_option linter.unusedSimpArgs false
section
namespace Go.Proofs.YtipfnhfcoolhaaaGreat.Aw
open Go Go.RowKit
set_option maxRecDepth 100000
set_option maxHeartbeats 2000000
theorem cellsOk_len {a : List Int} (h : cellsOk a = true) : a.length = 71 := (cellsOk_iff.1 h).2
theorem keyCell_in {s : Int} (h : 0 ≤ s ∧ s ≤ 3) : keyCell s = 3 + s := by rw [keyCell, if_pos h]
theorem unpackGauge_I (n : Int) : inI64 (unpackGauge n).1 ∧ inI64 (unpackGauge n).2 := by
  unfold unpackGauge; split <;> simp [inI64] <;> omega
theorem rowFrom_B (tag : Int) {raw : List Int} (hr : ∀ i, inI64 (raw.getD i 0)) : rowB (rowFrom tag raw) := by
  have hk := untag_kind tag
  obtain ⟨h1, h2, h3, h4, h5, h6, h7, h8, h9⟩ := rowK_B tag
  have hu := unpackGauge_I (raw.getD 3 0)
  by_cases hb : (untag tag).2 = 0 ∨ ¬ (raw.length : Int) = 8
  · rw [rowFrom_none hb]; exact row0_B
  have h38 : (untag tag).2 = 1 ∨ (untag tag).2 = 2 ∨ (untag tag).2 = 3 := by omega
  rcases h38 with h | h | h
  · rw [rowFrom_cnt (by omega) h]
    exact ⟨h1, h2, by simp only [inI64]; omega, h4, h5, h6, h7, h8, h9⟩
  · rw [rowFrom_gau (by omega) h]
    exact ⟨h1, h2, h3, hu.2, h5, h6, h7, h8, h9⟩
  · rw [rowFrom_tim (by omega) h]
    have hs := samples_B raw (rowK_B tag) (min 3 (raw.getD 4 0).toNat)
    have h4' := hr 4
    simp only [inI64] at h4'
    by_cases hc : (samples raw (min 3 (raw.getD 4 0).toNat) (rowK tag)).n = 3 ∧ 3 < raw.getD 4 0
    · rw [timerRow_hit rfl hc.1 hc.2]
      obtain ⟨g1, g2, g3, g4, g5, g6, g7, g8, g9⟩ := hs
      refine ⟨g1, g2, g3, g4, g5, g6, g7, g8, ?_⟩
      simp only [inI64]; split <;> omega
    · rw [timerRow_miss rfl hc]
      exact hs
theorem drop_getD (a : List Int) (n m i : Nat) : ((a.drop n).take m).getD i 0 = if i < m then a.getD (n + i) 0 else 0 := by
  simp only [List.getD_eq_getElem?_getD, List.getElem?_take, List.getElem?_drop]
  split <;> rfl
end Go.Proofs.YtipfnhfcoolhaaaGreat.Aw
end
section
namespace Go.Proofs.YtipfnhfcoolhaaaGreat.Aw
open Go Go.RowKit
set_option maxRecDepth 100000
set_option maxHeartbeats 2000000
theorem hash_lt (s : ByteArray) (i : Nat) : hashN s i ^^^ (bt s i).toNat < 4294967296 := by
  refine Nat.xor_lt_two_pow (n := 32) (hashN_lt s i) ?_
  have := bt_le s i
  omega
theorem ofInt_nat64 (a : Nat) (h : a < 4294967296) : (BitVec.ofInt 64 (a : Int)).toNat = a := by
  simp [BitVec.toNat_ofInt]; omega
theorem xor64 (a b : Nat) (ha : a < 4294967296) (hb : b < 4294967296) : bits .xor .i64 (a : Int) (b : Int) = ((a ^^^ b : Nat) : Int) := by
  have hx : a ^^^ b < 2 ^ 32 := Nat.xor_lt_two_pow (by omega) (by omega)
  show IntKind.i64.wrap ((BitVec.ofInt 64 (a : Int) ^^^ BitVec.ofInt 64 (b : Int)).toNat : Int) = _
  rw [BitVec.toNat_xor, ofInt_nat64 a ha, ofInt_nat64 b hb, wrap_in _ (by omega) (by omega)]
theorem bt_nat (s : ByteArray) (i : Nat) : bt s i = ((bt s i).toNat : Int) := by have := bt_le s i; omega
theorem hash_xor64 (s : ByteArray) (i : Nat) : bits .xor .i64 ((hashN s i : Nat) : Int) (bt s i) = ((hashN s i ^^^ (bt s i).toNat : Nat) : Int) := by
  have := bt_le s i
  have h := xor64 (hashN s i) (bt s i).toNat (hashN_lt s i) (by omega)
  rwa [← bt_nat] at h
theorem hash_xor32 (s : ByteArray) (i : Nat) : bits .xor .u32 ((hashN s i : Nat) : Int) (bt s i) = ((hashN s i ^^^ (bt s i).toNat : Nat) : Int) := by
  have := bt_le s i
  have h := u32_xor_nat (hashN s i) (bt s i).toNat (hashN_lt s i) (by omega)
  rwa [← bt_nat] at h
theorem wrap_u32 (n : Int) : IntKind.u32.wrap n = n % 4294967296 := by simp [IntKind.wrap, IntKind.bits, IntKind.signed]
theorem HashKey_spec (W0 : World) (s : ByteArray) (H : AH) (hs : s.size ≤ big) : ACalls Tryz.prog W0 254 [.v (.string s)] H (fun v H' => v = .v (.int .i64 (hashK s)) ∧ H' = H) := by
  refine acallw Tryz.func254 rfl (by kernel_rfl) (by kernel_rfl) fun hc hw => ?_
  simp only [big] at hs
  repeat' (first | simp -implicitDefEqProofs only [go_sem])
  refine acode_while (fun i : Nat => [(0, .v (.string s)), (3, .v (.int .i64 (hashN s i : Nat))), (4, .v (.int .i64 i))]) (fun i H' => H' = H ∧ i ≤ s.size) (fun i => s.size - i) 0 ⟨rfl, by omega⟩ ?_ (by simp only [frOk, go_sem]; simp [hashN])
  rintro i _ ⟨rfl, hi⟩
  have hx := hash_lt s i
  repeat' (first | simp -implicitDefEqProofs only [go_sem] | (rw [hash_xor64 s i]) | (simp -implicitDefEqProofs (disch := omega) only [wrap_in, Int.tmod_eq_emod_of_nonneg]) | refine acond_dec (fun _ => ?_) (fun _ => ?_) | refine aix_strn (fun _ _ => ?_) | refine retK_eq ?_)
  · exact back (i + 1) (by omega) (by omega) (by simp only [frOk, go_sem]; exact ⟨iv (by simp only [hashN]; omega), iv (by omega)⟩)
  · obtain rfl : i = s.size := by omega
    rfl
theorem HashKey_impl (W0 : World) (s : ByteArray) (H : AH) (hs : s.size ≤ big) : ACalls Tryz.prog W0 244 [.v (.string s)] H (fun v H' => v = .v (.int .i64 (hashK s)) ∧ H' = H) := by
  refine acallw Tryz.func244 rfl (by kernel_rfl) (by kernel_rfl) fun hc hw => ?_
  simp only [big] at hs
  repeat' (first | simp -implicitDefEqProofs only [go_sem])
  refine acode_while (fun i : Nat => [(0, .v (.string s)), (3, .v (.int .u32 (hashN s i : Nat))), (6, .v (.int .i64 s.size)), (7, .v (.int .i64 i))]) (fun i H' => H' = H ∧ i ≤ s.size) (fun i => s.size - i) 0 ⟨rfl, by omega⟩ ?_ (by simp only [frOk, go_sem]; simp [hashN])
  rintro i _ ⟨rfl, hi⟩
  have hx := hash_lt s i
  have hn := hashN_lt s i
  have hb := bt_le s i
  repeat' (first | simp -implicitDefEqProofs only [go_sem] | (rw [show IntKind.u32.wrap (bt s i) = bt s i by rw [wrap_u32]; omega]) | (rw [hash_xor32 s i]) | (simp -implicitDefEqProofs (disch := omega) only [wrap_in, wrap_u32]) | refine acond_dec (fun _ => ?_) (fun _ => ?_) | refine aix_strn (fun _ _ => ?_) | refine retK_eq ?_)
  · exact back (i + 1) (by omega) (by omega) (by simp only [frOk, go_sem]; exact ⟨iv (by simp only [hashN]; omega), iv (by omega)⟩)
  · obtain rfl : i = s.size := by omega
    rfl
theorem hashK_bd (s : ByteArray) : 0 ≤ hashK s ∧ hashK s < 4294967296 := by
  have := hashN_lt s s.size
  unfold hashK; omega
theorem Probe_spec (W0 : World) (s : ByteArray) (n : Int) (H : AH) (hs : s.size ≤ big) : ACalls Tryz.prog W0 204 [.v (.string s), .v (.int .i64 n)] H (fun v H' => v = .v (.int .i64 (probe s n)) ∧ H' = H) := by
  refine acallw Tryz.func204 rfl (by kernel_rfl) (by kernel_rfl) fun hc hw => ?_
  have hh := hashK_bd s
  unfold probe
  repeat' (first | simp -implicitDefEqProofs only [go_sem] | refine acond_ndec (fun _ => ?_) (fun _ => ?_) | simp -implicitDefEqProofs (disch := omega) only [wrap_in, u8_small, Int.tmod_eq_emod_of_nonneg, Int.tdiv_eq_ediv_of_nonneg] | refine ACallK.eq (KeyOk_spec _ _ _ hs) ?_ | refine ACallK.eq (l1In_ok _ _ _ _ _) ?_ | refine ACallK.eq (HashKey_spec _ _ _ hs) ?_ | refine agrd_bf (fun _ => ?_) (fun _ => ?_) | refine retK_eq ?_)
  all_goals (refine iv ?_; first | (rw [if_neg (fun k => by simp_all; done)]; done) | (rw [if_pos (by simp_all)]; first | done | omega) | (rw [if_neg (fun k => by simp_all; omega)]))
theorem Probe_impl (W0 : World) (s : ByteArray) (n : Int) (H : AH) (hs : s.size ≤ big) : ACalls Tryz.prog W0 172 [.v (.string s), .v (.int .i64 n)] H (fun v H' => v = .v (.int .i64 (probe s n)) ∧ H' = H) := by
  refine acallw Tryz.func172 rfl (by kernel_rfl) (by kernel_rfl) fun hc hw => ?_
  have hh := hashK_bd s
  unfold probe
  repeat' (first | simp -implicitDefEqProofs only [go_sem] | refine acond_ndec (fun _ => ?_) (fun _ => ?_) | simp -implicitDefEqProofs (disch := omega) only [wrap_in, u8_small, Int.tmod_eq_emod_of_nonneg, Int.tdiv_eq_ediv_of_nonneg] | refine ACallK.eq (KeyOk_impl _ _ _ hs) ?_ | refine ACallK.eq (within_ok _ _ _ _ _) ?_ | refine ACallK.eq (HashKey_impl _ _ _ hs) ?_ | refine agrd_bf (fun _ => ?_) (fun _ => ?_) | refine retK_eq ?_)
  all_goals (refine iv ?_; first | (rw [if_neg (fun k => by simp_all; done)]; done) | (rw [if_pos (by simp_all)]; first | done | omega) | (rw [if_neg (fun k => by simp_all; omega)]))
end Go.Proofs.YtipfnhfcoolhaaaGreat.Aw
end
section
namespace Go.Proofs.YtipfnhfcoolhaaaGreat.Aw
open Go Go.RowKit
set_option maxRecDepth 100000
set_option maxHeartbeats 2000000
attribute [-go_sem] wr_eq
theorem copied_ok (W0 : World) (v : AV) (a : List Int) (H : AH) (ha : SlR W0 H v a) (hl : a.length ≤ 1000000000000) : ACalls Tryz.prog W0 99 [v] H (fun u H' => NewS H H' u a) := by
  refine acallw Tryz.func99 rfl (by kernel_rfl) (by kernel_rfl) fun hc hw => ?_
  repeat' (first | simp -implicitDefEqProofs only [go_sem] | (refine app_new ha (by repeat (first | exact Sub.refl _ | assumption | refine Sub.new (by assumption) ?_ _ _ | refine Sub.kill_new (by assumption) ?_ _ _ | refine Sub.trans ?_ (by assumption))) (by simp only [go_sem]) (Nat.le_refl _) hw ?_; intro H' hs hN) | fail)
  exact retK_one hN
theorem l2Copy_ok (W0 : World) (v : AV) (a : List Int) (H : AH) (ha : SlR W0 H v a) (hl : a.length ≤ 1000000000000) : ACalls Tryz.prog W0 111 [v] H (fun u H' => NewS H H' u a) := by
  refine acallw Tryz.func111 rfl (by kernel_rfl) (by kernel_rfl) fun hc hw => ?_
  repeat' (first | simp -implicitDefEqProofs only [go_sem] | (refine app_new ha (by repeat (first | exact Sub.refl _ | assumption | refine Sub.new (by assumption) ?_ _ _ | refine Sub.kill_new (by assumption) ?_ _ _ | refine Sub.trans ?_ (by assumption))) (by simp only [go_sem]) (Nat.le_refl _) hw ?_; intro H' hs hN) | fail)
  exact retK_one hN
theorem CloneInt_ok (W0 : World) (v : AV) (a : List Int) (H : AH) (ha : SlR W0 H v a) (hl : a.length ≤ 1000000000000) : ACalls Tryz.prog W0 192 [v] H (fun u H' => NewS H H' u a) := by
  refine acallw Tryz.func192 rfl (by kernel_rfl) (by kernel_rfl) fun hc hw => ?_
  rcases ha.cases with ⟨b, o, n, rfl⟩ | ⟨n, c, rfl, rfl⟩ | ⟨ad, n, c, rfl⟩
  · repeat' (first | simp -implicitDefEqProofs only [go_sem] | (refine app_new ha (by repeat (first | exact Sub.refl _ | assumption | refine Sub.new (by assumption) ?_ _ _ | refine Sub.kill_new (by assumption) ?_ _ _ | refine Sub.trans ?_ (by assumption))) (by simp only [go_sem]) (Nat.le_refl _) hw ?_; intro H' hs hN) | fail)
    exact retK_one hN
  · repeat' (first | simp -implicitDefEqProofs only [go_sem] | (simp -implicitDefEqProofs only [Option.isNone_none, Option.isNone_some, go_sem]))
    exact retK_one ⟨Sub.refl _, [], .inl ⟨rfl, rfl, rfl⟩, Fresh.nil _⟩
  · repeat' (first | simp -implicitDefEqProofs only [go_sem] | (simp -implicitDefEqProofs only [Option.isNone_none, Option.isNone_some, go_sem]) | (refine app_new ha (by repeat (first | exact Sub.refl _ | assumption | refine Sub.new (by assumption) ?_ _ _ | refine Sub.kill_new (by assumption) ?_ _ _ | refine Sub.trans ?_ (by assumption))) (by simp only [go_sem]) (Nat.le_refl _) hw ?_; intro H' hs hN) | fail)
    exact retK_one hN
theorem LoadCell_impl (W0 : World) (v : AV) (a : List Int) (i : Int) (H : AH) (ha : SlR W0 H v a) : ACalls Tryz.prog W0 193 [v, .v (.int .i64 i)] H (fun u H' => u = .tup [.v (.int .i64 (loadC a i).1), .v (.bool (loadC a i).2)] ∧ H' = H) := by
  refine acallw Tryz.func193 rfl (by kernel_rfl) (by kernel_rfl) fun hc hw => ?_
  have hb := ha.2.1; simp only [big] at hb
  by_cases hc : cellsOk a = true
  · have hl := cellsOk_len hc
    by_cases hi : 0 ≤ i ∧ i ≤ 70
    · rw [loadC, if_pos ⟨hc, hi⟩]
      repeat' (first | simp -implicitDefEqProofs only [go_sem] | (refine ACallK.eq (CellsOk_impl _ _ a _ (SlR.sub' ha)) ?_; rw [hc]) | (simp -implicitDefEqProofs (disch := omega) only [wrap_in]) | refine ACallK.eq (within_ok _ _ _ _ _) ?_ | (refine ixI ha ?_) | (refine rdI ha ?_) | refine acond_ndecT (by omega) ?_ | refine abi_len_sl' (by assumption) ?_ | refine retK_eq ?_)
      all_goals first | rfl | (exfalso; omega)
    · rw [loadC, if_neg (fun k => hi k.2)]
      repeat' (first | simp -implicitDefEqProofs only [go_sem] | (refine ACallK.eq (CellsOk_impl _ _ a _ (SlR.sub' ha)) ?_; rw [hc]) | (simp -implicitDefEqProofs (disch := omega) only [wrap_in]) | refine ACallK.eq (within_ok _ _ _ _ _) ?_ | refine acond_ndecF (by omega) ?_ | refine abi_len_sl' (by assumption) ?_ | refine retK_eq ?_)
      all_goals first | rfl | (exfalso; omega)
  · rw [loadC, if_neg (fun k => hc k.1)]
    simp only [Bool.not_eq_true] at hc
    repeat' (first | simp -implicitDefEqProofs only [go_sem] | (refine ACallK.eq (CellsOk_impl _ _ a _ (SlR.sub' ha)) ?_; rw [hc]) | refine retK_eq ?_)
    all_goals rfl
theorem loadC_iff (a : List Int) (i : Int) : (loadC a i).2 = true ↔ cellsOk a = true ∧ 0 ≤ i ∧ i ≤ 70 := by
  unfold loadC; split <;> simp_all
theorem StoreCell_impl (W0 : World) (v : AV) (a : List Int) (i n : Int) (H : AH) (ha : SlR W0 H v a) (hl : a.length ≤ 1000000000000) : ACalls Tryz.prog W0 107 [v, .v (.int .i64 i), .v (.int .i64 n)] H (fun u H' => ∃ v', u = .tup [v', .v (.bool (storeC a i n).2)] ∧ NewS H H' v' (storeC a i n).1) := by
  refine acallw Tryz.func107 rfl (by kernel_rfl) (by kernel_rfl) fun hc hw => ?_
  repeat' (first | simp -implicitDefEqProofs only [go_sem])
  refine ACallK.of (CloneInt_ok _ v a _ ha hl).cl ?_
  rintro u H1 ⟨⟨s1, S1, o1, f1⟩, c1⟩
  have hu := o1.slr (W0 := W0)
  by_cases hp : cellsOk a = true ∧ (0 ≤ i ∧ i ≤ 70) ∧ wordP n
  · obtain ⟨h1, h2, h3⟩ := hp
    have hw3 := h3
    unfold wordP at hw3
    have hlen := cellsOk_len h1
    rw [storeC, if_pos ⟨h1, h2, h3⟩]
    repeat' (first | simp -implicitDefEqProofs only [go_sem] | (refine ACallK.eq (LoadCell_impl _ _ a _ _ (SlR.sub' ha)) ?_; rw [loadC, if_pos ⟨h1, h2⟩]) | (refine ACallK.eq (isWord_ok _ _ _) ?_; rw [decide_eq_true hw3]) | (refine ixI hu ?_) | (refine stI o1 c1.1 ?_; intro H2 w2 g2 o2))
    exact retK_two ⟨u, rfl, Chg.newS hw s1 f1 g2 o2⟩
  · rw [storeC, if_neg hp]
    repeat' (first | simp -implicitDefEqProofs only [go_sem] | (refine ACallK.eq (LoadCell_impl _ _ a _ _ (SlR.sub' ha)) ?_) | refine ACallK.eq (isWord_ok _ _ _) ?_ | refine acond_ndec (fun _ => ?_) (fun _ => ?_) | refine agrd_bf (fun _ => ?_) (fun _ => ?_))
    all_goals first
      | exact retK_two ⟨u, rfl, s1, S1, o1, f1⟩
      | (exfalso; rename_i h1 h2; have h3 := (loadC_iff a i).1 (by simp_all); exact hp ⟨h3.1, h3.2, by unfold wordP; omega⟩)
theorem addC_eq {a : List Int} {i n : Int} (h : cellsOk a = true ∧ (0 ≤ i ∧ i ≤ 70) ∧ -281474976710655 ≤ n ∧ n ≤ 281474976710655) : addC a i n = (a.set i.toNat ((a.getD i.toNat 0 + n) % 281474976710656), a.getD i.toNat 0) := by rw [addC, if_pos h]
theorem AddCell_impl (W0 : World) (v : AV) (a : List Int) (i n : Int) (H : AH) (ha : SlR W0 H v a) (hl : a.length ≤ 1000000000000) : ACalls Tryz.prog W0 102 [v, .v (.int .i64 i), .v (.int .i64 n)] H (fun u H' => ∃ v', u = .tup [v', .v (.int .i64 (addC a i n).2)] ∧ NewS H H' v' (addC a i n).1) := by
  refine acallw Tryz.func102 rfl (by kernel_rfl) (by kernel_rfl) fun hc hw => ?_
  repeat' (first | simp -implicitDefEqProofs only [go_sem])
  refine ACallK.of (CloneInt_ok _ v a _ ha hl).cl ?_
  rintro u H1 ⟨⟨s1, S1, o1, f1⟩, c1⟩
  have hu := o1.slr (W0 := W0)
  by_cases hp : cellsOk a = true ∧ (0 ≤ i ∧ i ≤ 70) ∧ -281474976710655 ≤ n ∧ n ≤ 281474976710655
  · rw [addC_eq hp]
    obtain ⟨h1, h2, h3⟩ := hp
    have hlen := cellsOk_len h1
    have hg := cellsOk_get h1 i.toNat
    unfold wordP at hg
    repeat' (first | simp -implicitDefEqProofs only [go_sem] | (refine ACallK.eq (LoadCell_impl _ _ a _ _ (SlR.sub' ha)) ?_; rw [loadC, if_pos ⟨h1, h2⟩]) | (refine ACallK.eq (within_ok _ _ _ _ _) ?_; rw [decide_eq_true h3]) | (simp -implicitDefEqProofs (disch := omega) only [wrap_in, Int.tmod_eq_emod_of_nonneg]) | (refine ixI hu ?_) | (refine stI o1 c1.1 ?_; intro H2 w2 g2 o2))
    rw [show (a.getD i.toNat 0 + n + 281474976710656) % 281474976710656 = (a.getD i.toNat 0 + n) % 281474976710656 by omega] at o2
    exact retK_two ⟨u, rfl, Chg.newS hw s1 f1 g2 o2⟩
  · rw [addC, if_neg hp]
    repeat' (first | simp -implicitDefEqProofs only [go_sem] | (refine ACallK.eq (LoadCell_impl _ _ a _ _ (SlR.sub' ha)) ?_) | refine ACallK.eq (within_ok _ _ _ _ _) ?_ | refine acond_ndec (fun _ => ?_) (fun _ => ?_) | refine agrd_bf (fun _ => ?_) (fun _ => ?_))
    all_goals first
      | exact retK_two ⟨u, rfl, s1, S1, o1, f1⟩
      | (exfalso; have h3 := (loadC_iff a i).1 (by simp_all); exact hp ⟨h3.1, h3.2, by omega⟩)
def cellC (b s k : Int) : Int := if 0 ≤ slotBase b s then slotBase b s + k else -1
def stripeC (b s k : Int) : Int := if (0 ≤ k ∧ k ≤ 1) ∧ 0 ≤ slotBase b s then slotBase b s + k else -1
def ringC (b s k : Int) : Int := if (0 ≤ k ∧ k ≤ 2) ∧ 0 ≤ slotBase b s then slotBase b s + (5 + k) else -1
theorem slotBase_le (b s : Int) : -1 ≤ slotBase b s ∧ slotBase b s ≤ 63 := by unfold slotBase; split <;> omega
theorem cellOf_ok (W0 : World) (b s k : Int) (H : AH) (hk : 0 ≤ k ∧ k ≤ 100) : ACalls Tryz.prog W0 194 [.v (.int .i64 b), .v (.int .i64 s), .v (.int .i64 k)] H (fun v H' => v = .v (.int .i64 (cellC b s k)) ∧ H' = H) := by
  refine acallw Tryz.func194 rfl (by kernel_rfl) (by kernel_rfl) fun hc hw => ?_
  have hb := slotBase_le b s
  repeat' (first | simp -implicitDefEqProofs only [go_sem] | refine acond_dec (fun _ => ?_) (fun _ => ?_) | simp -implicitDefEqProofs (disch := omega) only [wrap_in, u8_small, Int.tmod_eq_emod_of_nonneg, Int.tdiv_eq_ediv_of_nonneg] | refine ACallK.eq (SlotBase_impl _ _ _ _) ?_ | refine retK_eq ?_)
  all_goals (refine iv ?_; simp only [cellC]; (try rw [Go.IntWalk.i64_in _ (by omega)]); first | done | (split <;> first | done | omega | (split <;> omega)) | omega)
theorem l3Cell_ok (W0 : World) (b s k : Int) (H : AH) (hk : 0 ≤ k ∧ k ≤ 100) : ACalls Tryz.prog W0 253 [.v (.int .i64 b), .v (.int .i64 s), .v (.int .i64 k)] H (fun v H' => v = .v (.int .i64 (cellC b s k)) ∧ H' = H) := by
  refine acallw Tryz.func253 rfl (by kernel_rfl) (by kernel_rfl) fun hc hw => ?_
  have hb := slotBase_le b s
  repeat' (first | simp -implicitDefEqProofs only [go_sem] | refine acond_dec (fun _ => ?_) (fun _ => ?_) | simp -implicitDefEqProofs (disch := omega) only [wrap_in, u8_small, Int.tmod_eq_emod_of_nonneg, Int.tdiv_eq_ediv_of_nonneg] | refine ACallK.eq (SlotBase_spec _ _ _ _) ?_ | refine retK_eq ?_)
  all_goals (refine iv ?_; simp only [cellC]; (try rw [Go.IntWalk.i64_in _ (by omega)]); first | done | (split <;> first | done | omega | (split <;> omega)) | omega)
theorem StripeCell_impl (W0 : World) (b s k : Int) (H : AH) : ACalls Tryz.prog W0 103 [.v (.int .i64 b), .v (.int .i64 s), .v (.int .i64 k)] H (fun v H' => v = .v (.int .i64 (stripeC b s k)) ∧ H' = H) := by
  refine acallw Tryz.func103 rfl (by kernel_rfl) (by kernel_rfl) fun hc hw => ?_
  repeat' (first | simp -implicitDefEqProofs only [go_sem] | refine acond_ndec (fun _ => ?_) (fun _ => ?_) | refine ACallK.eq (within_ok _ _ _ _ _) ?_ | refine ACallK.eq (cellOf_ok _ _ _ _ _ (by omega)) ?_ | refine retK_eq ?_)
  all_goals (refine iv ?_; simp only [stripeC, cellC]; (try rw [Go.IntWalk.i64_in _ (by omega)]); first | done | (split <;> first | done | omega | (split <;> omega)) | omega)
theorem StripeCell_spec (W0 : World) (b s k : Int) (H : AH) : ACalls Tryz.prog W0 196 [.v (.int .i64 b), .v (.int .i64 s), .v (.int .i64 k)] H (fun v H' => v = .v (.int .i64 (stripeC b s k)) ∧ H' = H) := by
  refine acallw Tryz.func196 rfl (by kernel_rfl) (by kernel_rfl) fun hc hw => ?_
  repeat' (first | simp -implicitDefEqProofs only [go_sem] | refine acond_ndec (fun _ => ?_) (fun _ => ?_) | refine ACallK.eq (l1In_ok _ _ _ _ _) ?_ | refine ACallK.eq (l3Cell_ok _ _ _ _ _ (by omega)) ?_ | refine retK_eq ?_)
  all_goals (refine iv ?_; simp only [stripeC, cellC]; (try rw [Go.IntWalk.i64_in _ (by omega)]); first | done | (split <;> first | done | omega | (split <;> omega)) | omega)
theorem RingCell_impl (W0 : World) (b s k : Int) (H : AH) : ACalls Tryz.prog W0 110 [.v (.int .i64 b), .v (.int .i64 s), .v (.int .i64 k)] H (fun v H' => v = .v (.int .i64 (ringC b s k)) ∧ H' = H) := by
  refine acallw Tryz.func110 rfl (by kernel_rfl) (by kernel_rfl) fun hc hw => ?_
  repeat' (first | simp -implicitDefEqProofs only [go_sem] | refine acond_ndec (fun _ => ?_) (fun _ => ?_) | simp -implicitDefEqProofs (disch := omega) only [wrap_in, u8_small, Int.tmod_eq_emod_of_nonneg, Int.tdiv_eq_ediv_of_nonneg] | refine ACallK.eq (within_ok _ _ _ _ _) ?_ | refine ACallK.eq (cellOf_ok _ _ _ _ _ (by omega)) ?_ | refine retK_eq ?_)
  all_goals (refine iv ?_; simp only [ringC, cellC]; (try rw [Go.IntWalk.i64_in _ (by omega)]); first | done | (split <;> first | done | omega | (split <;> omega)) | omega)
theorem RingCell_spec (W0 : World) (b s k : Int) (H : AH) : ACalls Tryz.prog W0 203 [.v (.int .i64 b), .v (.int .i64 s), .v (.int .i64 k)] H (fun v H' => v = .v (.int .i64 (ringC b s k)) ∧ H' = H) := by
  refine acallw Tryz.func203 rfl (by kernel_rfl) (by kernel_rfl) fun hc hw => ?_
  repeat' (first | simp -implicitDefEqProofs only [go_sem] | refine acond_ndec (fun _ => ?_) (fun _ => ?_) | simp -implicitDefEqProofs (disch := omega) only [wrap_in, u8_small, Int.tmod_eq_emod_of_nonneg, Int.tdiv_eq_ediv_of_nonneg] | refine ACallK.eq (l1In_ok _ _ _ _ _) ?_ | refine ACallK.eq (l3Cell_ok _ _ _ _ _ (by omega)) ?_ | refine retK_eq ?_)
  all_goals (refine iv ?_; simp only [ringC, cellC]; (try rw [Go.IntWalk.i64_in _ (by omega)]); first | done | (split <;> first | done | omega | (split <;> omega)) | omega)
theorem StampCell_impl (W0 : World) (b s : Int) (H : AH) : ACalls Tryz.prog W0 104 [.v (.int .i64 b), .v (.int .i64 s)] H (fun v H' => v = .v (.int .i64 (cellC b s 2)) ∧ H' = H) := by
  refine acallw Tryz.func104 rfl (by kernel_rfl) (by kernel_rfl) fun hc hw => ?_
  repeat' (first | simp -implicitDefEqProofs only [go_sem] | refine ACallK.eq (cellOf_ok _ _ _ _ _ (by omega)) ?_ | refine retK_eq ?_)
theorem StampCell_spec (W0 : World) (b s : Int) (H : AH) : ACalls Tryz.prog W0 198 [.v (.int .i64 b), .v (.int .i64 s)] H (fun v H' => v = .v (.int .i64 (cellC b s 2)) ∧ H' = H) := by
  refine acallw Tryz.func198 rfl (by kernel_rfl) (by kernel_rfl) fun hc hw => ?_
  repeat' (first | simp -implicitDefEqProofs only [go_sem] | refine ACallK.eq (l3Cell_ok _ _ _ _ _ (by omega)) ?_ | refine retK_eq ?_)
theorem GaugeCell_impl (W0 : World) (b s : Int) (H : AH) : ACalls Tryz.prog W0 106 [.v (.int .i64 b), .v (.int .i64 s)] H (fun v H' => v = .v (.int .i64 (cellC b s 3)) ∧ H' = H) := by
  refine acallw Tryz.func106 rfl (by kernel_rfl) (by kernel_rfl) fun hc hw => ?_
  repeat' (first | simp -implicitDefEqProofs only [go_sem] | refine ACallK.eq (cellOf_ok _ _ _ _ _ (by omega)) ?_ | refine retK_eq ?_)
theorem GaugeCell_spec (W0 : World) (b s : Int) (H : AH) : ACalls Tryz.prog W0 200 [.v (.int .i64 b), .v (.int .i64 s)] H (fun v H' => v = .v (.int .i64 (cellC b s 3)) ∧ H' = H) := by
  refine acallw Tryz.func200 rfl (by kernel_rfl) (by kernel_rfl) fun hc hw => ?_
  repeat' (first | simp -implicitDefEqProofs only [go_sem] | refine ACallK.eq (l3Cell_ok _ _ _ _ _ (by omega)) ?_ | refine retK_eq ?_)
theorem TicketCell_impl (W0 : World) (b s : Int) (H : AH) : ACalls Tryz.prog W0 109 [.v (.int .i64 b), .v (.int .i64 s)] H (fun v H' => v = .v (.int .i64 (cellC b s 4)) ∧ H' = H) := by
  refine acallw Tryz.func109 rfl (by kernel_rfl) (by kernel_rfl) fun hc hw => ?_
  repeat' (first | simp -implicitDefEqProofs only [go_sem] | refine ACallK.eq (cellOf_ok _ _ _ _ _ (by omega)) ?_ | refine retK_eq ?_)
theorem TicketCell_spec (W0 : World) (b s : Int) (H : AH) : ACalls Tryz.prog W0 202 [.v (.int .i64 b), .v (.int .i64 s)] H (fun v H' => v = .v (.int .i64 (cellC b s 4)) ∧ H' = H) := by
  refine acallw Tryz.func202 rfl (by kernel_rfl) (by kernel_rfl) fun hc hw => ?_
  repeat' (first | simp -implicitDefEqProofs only [go_sem] | refine ACallK.eq (l3Cell_ok _ _ _ _ _ (by omega)) ?_ | refine retK_eq ?_)
end Go.Proofs.YtipfnhfcoolhaaaGreat.Aw
end
section
namespace Go.Proofs.YtipfnhfcoolhaaaGreat.Aw
open Go
set_option maxHeartbeats 1000000
theorem jobOk_iff' (j : JobD) : jobOk j = true ↔ opOk j.op = true ∧ placeOk j.op.kind j.pc ∧ countOk j ∧ ((0 ≤ j.slot ∧ j.slot ≤ 3) ∧ (0 ≤ j.what ∧ j.what ≤ 3) ∧ (0 ≤ j.e ∧ j.e ≤ 281474976710655) ∧ (0 ≤ j.k ∧ j.k ≤ 32) ∧ (j.keys.length : Int) ≤ 4 ∧ (j.raw.length : Int) ≤ 32) := by
  unfold jobOk; simp only [Bool.and_eq_true, decide_eq_true_eq, and_assoc]
theorem opOk_cases {o : OpD} (h : opOk o = true) : (o.kind = 1 ∧ keyOk o.key = true ∧ (1 ≤ o.what ∧ o.what ≤ 3)) ∨ (o.kind = 2 ∧ keyOk o.key = true ∧ (0 ≤ o.val ∧ o.val ≤ 65535)) ∨ o.kind = 3 := by
  unfold opOk at h
  split at h
  · simp only [Bool.and_eq_true, decide_eq_true_eq] at h; exact .inl ⟨by assumption, h.1.1, h.1.2⟩
  · split at h
    · simp only [Bool.and_eq_true, decide_eq_true_eq] at h; exact .inr (.inl ⟨by assumption, h.1.1, h.2⟩)
    · split at h
      · exact .inr (.inr (by assumption))
      · cases h
def MoveOk (w : WorldD) (k : Int) (r : WorldD × JobD) : Prop :=
  (cellsOk r.1.cells = true ∧ r.1.jobs = w.jobs ∧ r.1.todo = w.todo ∧ r.1.serial = w.serial ∧ r.1.now = w.now) ∧ (r.2 = job0 ∨ (r.2.busy = true ∧ jobOk r.2 = true ∧ r.2.op.kind = k))
theorem untag_rg (n : Int) : 0 ≤ (untag n).2 ∧ (untag n).2 ≤ 3 := by unfold untag; split <;> simp <;> omega
theorem packN_W {s : ByteArray} (h : keyOk s = true) : ∀ i, i ≤ s.size → 0 ≤ packN s i ∧ packN s i < 256 ^ i := by
  intro i
  induction i with
  | zero => intro _; simp [packN]
  | succ i ih =>
    intro hi
    have h1 := ih (by omega)
    have h2 := bt_le s i
    have h3 : (256 : Int) ^ (i + 1) = 256 ^ i * 256 := Int.pow_succ ..
    simp only [packN]
    omega
theorem tagged_W (s : ByteArray) (k : Int) : wordP (tagged s k) := by
  unfold tagged wordP
  split
  · rename_i h
    have h4 : s.size ≤ 4 := (of_decide_eq_true ((Bool.and_eq_true _ _).mp h.1).1).2
    have hp := packN_W h.1 s.size (Nat.le_refl _)
    have h5 : (256 : Int) ^ s.size ≤ 256 ^ 4 := by
      have : s.size = 0 ∨ s.size = 1 ∨ s.size = 2 ∨ s.size = 3 ∨ s.size = 4 := by omega
      rcases this with h | h | h | h | h <;> rw [h] <;> decide
    rw [packKey, if_pos h.1]
    omega
  · omega
theorem packGauge_W' (s v : Int) : wordP (packGauge s v) := by unfold packGauge wordP; split <;> omega
def countP (p kk kl rl : Int) : Prop :=
  if p = 0 ∨ p = 1 then 0 ≤ kk ∧ kk ≤ 3 else if p = 8 then 0 ≤ kk ∧ kk ≤ 2
  else if p = 14 then 0 ≤ kk ∧ kk ≤ 3 ∧ kl = kk ∧ rl = 0
  else if p = 15 then 0 ≤ kk ∧ kk ≤ 31 ∧ kl = 4 ∧ rl = kk
  else if p = 13 ∨ p = 12 then kl = 0 ∧ rl = 0 else True
instance (p kk kl rl : Int) : Decidable (countP p kk kl rl) := by unfold countP; infer_instance
theorem countOk_eq (j : JobD) : countOk j = countP j.pc j.k j.keys.length j.raw.length := rfl
theorem cnt_any {p kk kl rl : Int} (h : 2 ≤ p ∧ p ≤ 11) (h8 : p ≠ 8) : countP p kk kl rl := by
  unfold countP; rw [if_neg (by omega), if_neg h8, if_neg (by omega), if_neg (by omega), if_neg (by omega)]; trivial
theorem place_w {k p : Int} (hk : k = 2) (hp : p = 11 ∨ p = 0 ∨ (2 ≤ p ∧ p ≤ 10)) : placeOk k p := by
  unfold placeOk; rw [if_neg (by omega), if_neg (by omega)]; exact hp
theorem place_r {k p : Int} (hk : k = 1) (hp : p = 0 ∨ p = 1) : placeOk k p := by
  unfold placeOk; rw [if_neg (by omega), if_pos hk]; exact .inr hp
theorem place_f {k p : Int} (hk : k = 3) (hp : 12 ≤ p ∧ p ≤ 15) : placeOk k p := by
  unfold placeOk; rw [if_pos hk]; exact .inr hp
theorem place_0 {k : Int} (hk : k = 1 ∨ k = 2) : placeOk k 0 := by
  rcases hk with h | h
  · exact place_r h (.inl rfl)
  · exact place_w h (.inr (.inl rfl))
theorem mk_ok {w : WorldD} {k : Int} {w' : WorldD} {j' : JobD} (p kk : Int) (ep : j'.pc = p) (ek : j'.k = kk) (hc : cellsOk w'.cells = true) (h : w'.jobs = w.jobs ∧ w'.todo = w.todo ∧ w'.serial = w.serial ∧ w'.now = w.now) (hb : j'.busy = true) (ho : opOk j'.op = true) (hk : j'.op.kind = k) (h1 : placeOk k p) (h2 : countP p kk j'.keys.length j'.raw.length)
    (h3 : (0 ≤ j'.slot ∧ j'.slot ≤ 3) ∧ (0 ≤ j'.what ∧ j'.what ≤ 3) ∧ (0 ≤ j'.e ∧ j'.e ≤ 281474976710655)) (h4 : (0 ≤ kk ∧ kk ≤ 32) ∧ (j'.keys.length : Int) ≤ 4 ∧ (j'.raw.length : Int) ≤ 32) : MoveOk w k (w', j') := by
  subst ep ek hk
  exact ⟨⟨hc, h.1, h.2.1, h.2.2.1, h.2.2.2⟩, .inr ⟨hb, (jobOk_iff' _).2 ⟨ho, h1, h2, h3.1, h3.2.1, h3.2.2, h4⟩, rfl⟩⟩
theorem moveD_ok {w : WorldD} {t : Nat} {j : JobD} (hc : cellsOk w.cells = true) (hb : j.busy = true) (hj : jobOk j = true) : MoveOk w j.op.kind (moveD w t j) := by
  have hg : ∀ i, 0 ≤ cget w i ∧ cget w i ≤ 281474976710655 := fun i => cellsOk_get hc i
  obtain ⟨h1, h2, h3, hs, hw3, he, h4⟩ := (jobOk_iff' j).1 hj
  have hop := opOk_cases h1
  have hset : ∀ (i : Nat) (n : Int), wordP n → cellsOk (cset w i n).cells = true := fun i n hn => cellsOk_set hc i hn
  have hadd : ∀ (i : Nat) (n : Int), cellsOk (cadd w i n).cells = true := fun i n => hset i _ (wordP_mod _)
  have hR : w.jobs = w.jobs ∧ w.todo = w.todo ∧ w.serial = w.serial ∧ w.now = w.now := ⟨rfl, rfl, rfl, rfl⟩
  have hp11 : placeOk j.op.kind 11 := .inl rfl
  rw [countOk_eq] at h3
  have hsame : MoveOk w j.op.kind (w, j) := ⟨⟨hc, rfl, rfl, rfl, rfl⟩, .inr ⟨hb, hj, rfl⟩⟩
  have hend : ∀ (w' : WorldD) code, cellsOk w'.cells = true → (w'.jobs = w.jobs ∧ w'.todo = w.todo ∧ w'.serial = w.serial ∧ w'.now = w.now) → MoveOk w j.op.kind (endD w' t j code) :=
    fun w' code hc' hR' => mk_ok 11 j.k rfl rfl hc' hR' hb h1 rfl hp11 (cnt_any (by decide) (by decide)) ⟨hs, hw3, he⟩ h4
  unfold moveD
  split
  · exact ⟨⟨hc, rfl, rfl, rfl, rfl⟩, .inl rfl⟩
  rename_i n11
  split
  · rename_i pc0
    have hk12 : j.op.kind = 1 ∨ j.op.kind = 2 := by
      unfold placeOk at h2; rcases hop with h | h | h
      · exact .inl h.1
      · exact .inr h.1
      · rw [if_pos h] at h2; omega
    have hkk : keyOk j.op.key = true := by
      rcases hop with h | h | h
      · exact h.2.1
      · exact h.2.1
      · omega
    have hk3 : 0 ≤ j.k ∧ j.k ≤ 3 := by unfold countP at h3; rw [if_pos (.inl pc0)] at h3; exact h3
    have hu := untag_rg (probeTag w j)
    have hp := probe_bd (key := j.op.key) (n := j.k) hkk hk3.1 hk3.2
    unfold probeD
    split
    · split
      · rename_i hk1
        exact mk_ok 1 j.k rfl rfl hc hR hb h1 rfl (place_r hk1 (.inr rfl)) (by unfold countP; rw [if_pos (.inr rfl)]; exact hk3) ⟨hs, hw3, he⟩ h4
      · exact hend _ _ hc hR
    · split
      · split
        · rename_i hk2
          exact mk_ok 2 j.k rfl rfl hc hR hb h1 rfl (place_w hk2 (by decide)) (cnt_any (by decide) (by decide)) ⟨hp, hu, he⟩ h4
        · split
          · exact hend _ _ hc hR
          · exact hend _ _ hc hR
      · split
        · rename_i hk
          exact mk_ok 0 (j.k + 1) pc0 rfl hc hR hb h1 rfl (place_0 hk12) (by unfold countP; rw [if_pos (.inl rfl)]; omega) ⟨hs, hw3, he⟩ ⟨by omega, h4.2⟩
        · split
          · exact hend _ _ hc hR
          · exact hend _ _ hc hR
  rename_i n0
  split
  · rename_i pc1
    have hk3 : 0 ≤ j.k ∧ j.k ≤ 3 := by unfold countP at h3; rw [if_pos (.inr pc1)] at h3; exact h3
    have hk1 : j.op.kind = 1 := by
      unfold placeOk at h2; rcases hop with h | h | h
      · exact h.1
      · rw [if_neg (by omega), if_neg (by omega)] at h2; omega
      · rw [if_pos h] at h2; omega
    unfold claimD
    split
    · exact hend _ _ (hset _ _ (tagged_W _ _)) hR
    · exact mk_ok 0 j.k rfl rfl hc hR hb h1 rfl (place_r hk1 (.inl rfl)) (by unfold countP; rw [if_pos (.inl rfl)]; exact hk3) ⟨hs, hw3, he⟩ h4
  rename_i n1
  split
  · rename_i lt12
    have hk2 : j.op.kind = 2 ∧ 2 ≤ j.pc ∧ j.pc ≤ 10 := by
      unfold placeOk at h2; rcases hop with h | h | h
      · rw [if_neg (by omega), if_pos h.1] at h2; omega
      · rw [if_neg (by omega), if_neg (by omega)] at h2; omega
      · rw [if_pos h] at h2; omega
    have hk := hk2.1
    have H3 := And.intro hs (And.intro hw3 he)
    have go : ∀ (p : Int) (w' : WorldD) (j' : JobD), j'.pc = p → (2 ≤ p ∧ p ≤ 11) ∧ p ≠ 8 → j'.k = j.k → cellsOk w'.cells = true → (w'.jobs = w.jobs ∧ w'.todo = w.todo ∧ w'.serial = w.serial ∧ w'.now = w.now) → j'.busy = j.busy → j'.op = j.op → (j'.slot = j.slot ∧ j'.what = j.what) → (0 ≤ j'.e ∧ j'.e ≤ 281474976710655) → j'.keys = j.keys ∧ j'.raw = j.raw → MoveOk w j.op.kind (w', j') := by
      intro p w' j' e1 e2 e3 c r b o sw e kr
      exact mk_ok p j.k e1 e3 c r (b.trans hb) (o ▸ h1) (by rw [o]) (place_w hk (by omega)) (cnt_any e2.1 e2.2) ⟨sw.1 ▸ hs, sw.2 ▸ hw3, e⟩ (kr.1 ▸ kr.2 ▸ h4)
    unfold writeD
    split
    · exact go 3 _ _ rfl (by decide) rfl hc hR rfl rfl ⟨rfl, rfl⟩ (hg 0) ⟨rfl, rfl⟩
    split
    · exact go 4 _ _ rfl (by decide) rfl (hadd _ _) hR rfl rfl ⟨rfl, rfl⟩ he ⟨rfl, rfl⟩
    split
    · by_cases hq : cget w 0 = j.e
      · exact go 5 _ _ (if_pos hq) (by decide) rfl hc hR rfl rfl ⟨rfl, rfl⟩ he ⟨rfl, rfl⟩
      · exact go 10 _ _ (if_neg hq) (by decide) rfl hc hR rfl rfl ⟨rfl, rfl⟩ he ⟨rfl, rfl⟩
    split
    · unfold dataD
      split
      · exact go 9 _ _ rfl (by decide) rfl (hadd _ _) hR rfl rfl ⟨rfl, rfl⟩ he ⟨rfl, rfl⟩
      split
      · exact go 6 _ _ rfl (by decide) rfl (hadd _ _) hR rfl rfl ⟨rfl, rfl⟩ he ⟨rfl, rfl⟩
      split
      · exact go 9 _ _ rfl (by decide) rfl (hadd _ _) hR rfl rfl ⟨rfl, rfl⟩ he ⟨rfl, rfl⟩
      · have := hg (baseD j + 4)
        exact mk_ok 8 (cget w (baseD j + 4)) rfl rfl (hadd _ _) hR hb h1 rfl (place_w hk (by decide)) (by unfold countP; rw [if_neg (by decide), if_pos rfl]; omega) H3 ⟨by omega, h4.2⟩
    split
    · by_cases hq : j.stamp < (unpackGauge (cget w (baseD j + 3))).1
      · exact go 9 _ _ (if_pos hq) (by decide) rfl hc hR rfl rfl ⟨rfl, rfl⟩ he ⟨rfl, rfl⟩
      · exact go 7 _ _ (if_neg hq) (by decide) rfl hc hR rfl rfl ⟨rfl, rfl⟩ he ⟨rfl, rfl⟩
    split
    · split
      · exact go 9 _ _ rfl (by decide) rfl (hset _ _ (packGauge_W' _ _)) hR rfl rfl ⟨rfl, rfl⟩ he ⟨rfl, rfl⟩
      · exact go 6 _ _ rfl (by decide) rfl hc hR rfl rfl ⟨rfl, rfl⟩ he ⟨rfl, rfl⟩
    split
    · rename_i pc8
      have hv : 0 ≤ j.op.val ∧ j.op.val ≤ 65535 := by
        rcases hop with h | h | h
        · omega
        · exact h.2.2
        · omega
      exact go 9 _ _ rfl (by decide) rfl (hset _ _ ⟨by omega, by omega⟩) hR rfl rfl ⟨rfl, rfl⟩ he ⟨rfl, rfl⟩
    split
    · exact go 11 _ _ rfl (by decide) rfl (hadd _ _) hR rfl rfl ⟨rfl, rfl⟩ he ⟨rfl, rfl⟩
    · exact go 2 _ _ rfl (by decide) rfl (hadd _ _) hR rfl rfl ⟨rfl, rfl⟩ he ⟨rfl, rfl⟩
  · rename_i ge12
    have hk : j.op.kind = 3 ∧ 12 ≤ j.pc ∧ j.pc ≤ 15 := by
      unfold placeOk at h2; rcases hop with h | h | h
      · rw [if_neg (by omega), if_pos h.1] at h2; omega
      · rw [if_neg (by omega), if_neg (by omega)] at h2; omega
      · rw [if_pos h] at h2; omega
    unfold flushD
    split
    · rename_i pc
      have hq : (j.keys.length : Int) = 0 ∧ (j.raw.length : Int) = 0 := by
        unfold countP at h3; rw [if_neg (by omega), if_neg (by omega), if_neg (by omega), if_neg (by omega), if_pos (by omega)] at h3; exact h3
      exact mk_ok 13 j.k rfl rfl (hadd _ _) hR hb h1 rfl (place_f hk.1 (by decide)) (by unfold countP; rw [if_neg (by decide), if_neg (by decide), if_neg (by decide), if_neg (by decide), if_pos (by decide)]; exact hq) ⟨hs, hw3, hg 0⟩ h4
    split
    · rename_i pc
      have hq : (j.keys.length : Int) = 0 ∧ (j.raw.length : Int) = 0 := by
        unfold countP at h3; rw [if_neg (by omega), if_neg (by omega), if_neg (by omega), if_neg (by omega), if_pos (by omega)] at h3; exact h3
      split
      · exact mk_ok 14 0 rfl rfl hc hR hb h1 rfl (place_f hk.1 (by decide)) (by unfold countP; rw [if_neg (by decide), if_neg (by decide), if_pos (by decide)]; exact ⟨by decide, by decide, hq⟩) ⟨hs, hw3, he⟩ ⟨by decide, h4.2⟩
      · exact hsame
    split
    · rename_i pc
      have hq : 0 ≤ j.k ∧ j.k ≤ 3 ∧ (j.keys.length : Int) = j.k ∧ (j.raw.length : Int) = 0 := by
        unfold countP at h3; rw [if_neg (by omega), if_neg (by omega), if_pos (by omega)] at h3; exact h3
      have hl : ((j.keys ++ [cget w (3 + j.k.toNat)]).length : Int) = j.keys.length + 1 := by simp
      split
      · exact mk_ok 15 0 rfl rfl hc hR hb h1 rfl (place_f hk.1 (by decide)) (by show countP 15 0 (j.keys ++ [cget w (3 + j.k.toNat)]).length j.raw.length; unfold countP; rw [if_neg (by decide), if_neg (by decide), if_neg (by decide), if_pos (by decide), hl]; omega) ⟨hs, hw3, he⟩ ⟨by decide, by rw [hl]; omega, h4.2.2⟩
      · exact mk_ok 14 (j.k + 1) pc rfl hc hR hb h1 rfl (place_f hk.1 (by decide)) (by show countP 14 (j.k + 1) (j.keys ++ [cget w (3 + j.k.toNat)]).length j.raw.length; unfold countP; rw [if_neg (by decide), if_neg (by decide), if_pos (by decide), hl]; omega) ⟨hs, hw3, he⟩ ⟨by omega, by rw [hl]; omega, h4.2.2⟩
    · have pc : j.pc = 15 := by omega
      have hq : 0 ≤ j.k ∧ j.k ≤ 31 ∧ (j.keys.length : Int) = 4 ∧ (j.raw.length : Int) = j.k := by
        unfold countP at h3; rw [if_neg (by omega), if_neg (by omega), if_neg (by omega), if_pos (by omega)] at h3; exact h3
      have hl : ((j.raw ++ [cget w (drainC j)]).length : Int) = j.raw.length + 1 := by simp
      by_cases h31 : j.k = 31
      · exact mk_ok 11 (j.k + 1) (if_pos h31) rfl (hset _ _ (by decide)) hR hb h1 rfl hp11 (cnt_any (by decide) (by decide)) ⟨hs, hw3, he⟩ ⟨by omega, h4.2.1, by rw [hl]; omega⟩
      · exact mk_ok 15 (j.k + 1) ((if_neg h31).trans pc) rfl (hset _ _ (by decide)) hR hb h1 rfl (place_f hk.1 (by decide)) (by show countP 15 (j.k + 1) j.keys.length (j.raw ++ [cget w (drainC j)]).length; unfold countP; rw [if_neg (by decide), if_neg (by decide), if_neg (by decide), if_pos (by decide), hl]; omega) ⟨hs, hw3, he⟩ ⟨by omega, h4.2.1, by rw [hl]; omega⟩
theorem queueOk_iff {t : Nat} {q : QueueD} : queueOk t q = true ↔ q.ops.length ≤ 10 ∧ ∀ o ∈ q.ops, opOk o = true ∧ (o.kind = 3 ↔ t = 3) := by
  unfold queueOk
  simp only [Bool.and_eq_true, decide_eq_true_eq, List.all_eq_true, beq_iff_eq, decide_eq_decide]
  constructor
  · rintro ⟨a, b⟩; exact ⟨by omega, fun o ho => ⟨(b o ho).1, (b o ho).2.trans ⟨fun h => by omega, fun h => by omega⟩⟩⟩
  · rintro ⟨a, b⟩; exact ⟨by omega, fun o ho => ⟨(b o ho).1, (b o ho).2.trans ⟨fun h => by omega, fun h => by omega⟩⟩⟩
theorem todoOk_iff {l : List QueueD} : todoOk l = true ↔ l.length = 4 ∧ ∀ (t : Nat) (h : t < l.length), queueOk t l[t] = true := by
  unfold todoOk
  simp only [Bool.and_eq_true, decide_eq_true_eq, List.all_eq_true, List.mem_range]
  constructor
  · rintro ⟨a, b⟩; refine ⟨by omega, fun t ht => ?_⟩
    have := b t ht; simpa [queueAt, List.getElem?_eq_getElem ht] using this
  · rintro ⟨a, b⟩; refine ⟨by omega, fun t ht => ?_⟩
    have := b t ht; simpa [queueAt, List.getElem?_eq_getElem ht] using this
theorem jobAt_iff {t : Nat} {j : JobD} : jobAt t j = true ↔ j = job0 ∨ (j.busy = true ∧ jobOk j = true ∧ (j.op.kind = 3 ↔ t = 3)) := by
  unfold jobAt
  split
  · rename_i h
    simp only [Bool.and_eq_true, beq_iff_eq, decide_eq_decide]
    constructor
    · rintro ⟨a, b⟩; exact .inr ⟨h, a, b.trans ⟨fun h => by omega, fun h => by omega⟩⟩
    · rintro (e | ⟨_, a, b⟩)
      · subst e; cases h
      · exact ⟨a, b.trans ⟨fun h => by omega, fun h => by omega⟩⟩
  · rename_i h
    simp only [decide_eq_true_eq]
    exact ⟨.inl, fun h' => h'.elim id fun ⟨b, _⟩ => absurd b h⟩
theorem stepD_ok {w : WorldD} {t : Nat} (hw : worldOk w = true) (ht : t < 4) : worldOk (stepD w t) = true := by
  obtain ⟨c, td, s, n, jl, ja⟩ := worldOk_iff.1 hw
  unfold stepD
  split
  · exact hw
  rename_i nn
  have hjt : jobAt t (jobOf w t) = true := by
    unfold jobOf; rw [List.getD_eq_getElem?_getD, List.getElem?_eq_getElem (by omega)]; exact ja t (by omega)
  split
  · rename_i hb
    obtain ⟨_, hj, hk⟩ := (jobAt_iff.1 hjt).resolve_left (fun e => by rw [e] at hb; cases hb)
    have hm := @moveD_ok { w with now := w.now + 1 } t { jobOf w t with steps := IntKind.i64.wrap ((jobOf w t).steps + 1) } c hb hj
    revert hm
    generalize moveD _ _ _ = r
    rintro ⟨⟨hc, hjo, hto, hse, hno⟩, hr⟩
    refine worldOk_iff.2 ⟨hc, hto ▸ td, ?_, ?_, ?_, ?_⟩
    · show 0 ≤ r.1.serial ∧ r.1.serial ≤ 1000000
      rw [hse]; exact s
    · show 0 ≤ r.1.now ∧ r.1.now ≤ 1000000000
      rw [hno]; show 0 ≤ w.now + 1 ∧ w.now + 1 ≤ 1000000000; omega
    · show (r.1.jobs.set t r.2).length = 4
      rw [List.length_set, hjo]; exact jl
    · intro i hi
      show jobAt i (r.1.jobs.set t r.2)[i] = true
      rw [List.getElem_set]
      split
      · rename_i e; subst e
        rcases hr with e | ⟨b, o, k⟩
        · rw [e]; exact jobAt_iff.2 (.inl rfl)
        · exact jobAt_iff.2 (.inr ⟨b, o, by rw [k]; exact hk⟩)
      · have : i < w.jobs.length := by have := hi; simp only [List.length_set, hjo] at this; exact this
        have h' := ja i this
        simpa only [hjo] using h'
  · split
    · exact hw
    · rename_i hb hq
      obtain ⟨tl, tq⟩ := todoOk_iff.1 td
      have hto : w.todo.getD t ⟨[]⟩ = w.todo[t]'(by omega) := by rw [List.getD_eq_getElem?_getD, List.getElem?_eq_getElem (by omega)]; rfl
      obtain ⟨ql, qo⟩ := queueOk_iff.1 (tq t (by omega))
      have hops : opsAt w t = (w.todo[t]'(by omega)).ops := by unfold opsAt; rw [hto]
      rw [← hops] at ql qo
      match hm : opsAt w t with
      | [] => exact absurd (.inl hm) hq
      | o :: os =>
        rw [hm] at ql qo
        obtain ⟨ho, hk⟩ := qo o (List.mem_cons_self ..)
        have e1 : opsAt { w with now := w.now + 1 } t = o :: os := hm
        unfold startD
        rw [e1]
        simp only [List.headD_cons, List.tail_cons]
        refine worldOk_iff.2 ⟨c, ?_, ?_, ?_, ?_, ?_⟩
        · refine todoOk_iff.2 ⟨by simp only [List.length_set]; exact tl, fun i hi => ?_⟩
          show queueOk i (w.todo.set t ⟨os⟩)[i] = true
          rw [List.getElem_set]
          split
          · rename_i e; subst e
            exact queueOk_iff.2 ⟨by simp only [List.length_cons] at ql; show os.length ≤ 10; omega, fun o' h' => qo o' (List.mem_cons_of_mem _ h')⟩
          · exact tq i (by simpa only [List.length_set] using hi)
        · show 0 ≤ w.serial + 1 ∧ w.serial + 1 ≤ 1000000; omega
        · show 0 ≤ w.now + 1 ∧ w.now + 1 ≤ 1000000000; omega
        · show (w.jobs.set t _).length = 4
          rw [List.length_set]; exact jl
        · intro i hi
          show jobAt i (w.jobs.set t (startJ (w.serial + 1) o))[i] = true
          rw [List.getElem_set]
          split
          · rename_i e; subst e
            refine jobAt_iff.2 (.inr ⟨rfl, ?_, hk⟩)
            refine (jobOk_iff' _).2 ⟨ho, ?_, ?_, (by decide : (0 : Int) ≤ 0 ∧ (0 : Int) ≤ 3), (by decide : (0 : Int) ≤ 0 ∧ (0 : Int) ≤ 3), (by decide : (0 : Int) ≤ 0 ∧ (0 : Int) ≤ 281474976710655), (by decide : (0 : Int) ≤ 0 ∧ (0 : Int) ≤ 32), (by decide : ((([] : List Int).length : Nat) : Int) ≤ 4), (by decide : ((([] : List Int).length : Nat) : Int) ≤ 32)⟩
            · show placeOk o.kind (if o.kind = 3 then 12 else 0)
              rcases opOk_cases ho with h | h | h
              · rw [if_neg (by omega)]; exact place_0 (.inl h.1)
              · rw [if_neg (by omega)]; exact place_0 (.inr h.1)
              · rw [if_pos h]; exact place_f h (by decide)
            · show countP (if o.kind = 3 then 12 else 0) 0 0 0
              split <;> decide
          · exact ja i (by simpa only [List.length_set] using hi)
end Go.Proofs.YtipfnhfcoolhaaaGreat.Aw
end
section
namespace Go.Proofs.YtipfnhfcoolhaaaGreat.Aw
open Go Go.RowKit
set_option maxRecDepth 100000
set_option maxHeartbeats 2000000
attribute [-go_sem] wr_eq
theorem StoreCell_in (W0 : World) (v : AV) (a : List Int) (i n : Int) (H : AH) (ha : SlR W0 H v a) (hp : cellsOk a = true) (hi : 0 ≤ i ∧ i ≤ 70) (ht : wordP n) : ACalls Tryz.prog W0 107 [v, .v (.int .i64 i), .v (.int .i64 n)] H (fun u H' => ∃ v', u = .tup [v', .v (.bool true)] ∧ NewS H H' v' (a.set i.toNat n)) := by
  have h := StoreCell_impl W0 v a i n H ha (by rw [cellsOk_len hp]; omega)
  rw [storeC, if_pos ⟨hp, hi, ht⟩] at h
  exact h
theorem AddCell_in (W0 : World) (v : AV) (a : List Int) (i n : Int) (H : AH) (ha : SlR W0 H v a) (hp : cellsOk a = true) (hi : 0 ≤ i ∧ i ≤ 70) (hn : -281474976710655 ≤ n ∧ n ≤ 281474976710655) : ACalls Tryz.prog W0 102 [v, .v (.int .i64 i), .v (.int .i64 n)] H (fun u H' => ∃ v', u = .tup [v', .v (.int .i64 (a.getD i.toNat 0))] ∧ NewS H H' v' (a.set i.toNat ((a.getD i.toNat 0 + n) % 281474976710656))) := by
  have h := AddCell_impl W0 v a i n H ha (by rw [cellsOk_len hp]; omega)
  rw [addC, if_pos ⟨hp, hi, hn⟩] at h
  exact h
theorem CasCell_in (W0 : World) (v : AV) (a : List Int) (i old to : Int) (H : AH) (ha : SlR W0 H v a) (hp : cellsOk a = true) (hi : 0 ≤ i ∧ i ≤ 70) (ht : wordP to) : ACalls Tryz.prog W0 171 [v, .v (.int .i64 i), .v (.int .i64 old), .v (.int .i64 to)] H (fun u H' => ∃ v', u = .tup [v', .v (.bool (decide (a.getD i.toNat 0 = old)))] ∧ NewS H H' v' (if a.getD i.toNat 0 = old then a.set i.toNat to else a)) := by
  refine acallw Tryz.func171 rfl (by kernel_rfl) (by kernel_rfl) fun hc hw => ?_
  have hl : a.length ≤ 1000000000000 := by rw [cellsOk_len hp]; omega
  by_cases e : a.getD i.toNat 0 = old
  · rw [decide_eq_true e, if_pos e]
    repeat' (first | simp -implicitDefEqProofs only [go_sem] | (refine ACallK.eq (LoadCell_impl _ _ a _ _ (SlR.sub' ha)) ?_; rw [loadC, if_pos ⟨hp, hi⟩]; simp only [e]) | (refine ACallK.of (StoreCell_in _ v a i to _ (SlR.sub' ha) hp hi ht) ?_; rintro _ H1 ⟨v', rfl, hN⟩))
    exact retK_two ⟨v', rfl, hN⟩
  · rw [decide_eq_false e, if_neg e]
    repeat' (first | simp -implicitDefEqProofs only [go_sem] | (refine ACallK.eq (LoadCell_impl _ _ a _ _ (SlR.sub' ha)) ?_; rw [loadC, if_pos ⟨hp, hi⟩]) | (simp -implicitDefEqProofs only [decide_eq_false e]) | (refine ACallK.of (CloneInt_ok _ v a _ (SlR.sub' ha) hl) ?_; rintro v' H1 hN))
    all_goals first | exact retK_two ⟨_, rfl, hN⟩ | (exfalso; simp_all; done)
theorem SwapCell_in (W0 : World) (v : AV) (a : List Int) (i n : Int) (H : AH) (ha : SlR W0 H v a) (hp : cellsOk a = true) (hi : 0 ≤ i ∧ i ≤ 70) (ht : wordP n) : ACalls Tryz.prog W0 247 [v, .v (.int .i64 i), .v (.int .i64 n)] H (fun u H' => ∃ v', u = .tup [v', .v (.int .i64 (a.getD i.toNat 0))] ∧ NewS H H' v' (a.set i.toNat n)) := by
  refine acallw Tryz.func247 rfl (by kernel_rfl) (by kernel_rfl) fun hc hw => ?_
  have hlen := cellsOk_len hp
  repeat' (first | simp -implicitDefEqProofs only [go_sem] | (refine ACallK.of (StoreCell_in _ v a i n _ (SlR.sub' ha) hp hi ht) ?_; rintro _ H1 ⟨v', rfl, hN⟩; have hs1 := hN.1) | (refine ixI ha ?_) | (refine rdI ha ?_) | ((with_reducible refine adraw_seq ?_ ?_ ?_); (· kernel_rfl); (· decide +kernel)))
  exact retK_two ⟨v', rfl, hN⟩
theorem InCell_impl (W0 : World) (b : Int) (H : AH) : ACalls Tryz.prog W0 176 [.v (.int .i64 b)] H (fun v H' => v = .v (.int .i64 (if 0 ≤ b ∧ b ≤ 1 then 1 + b else -1)) ∧ H' = H) := by
  refine acallw Tryz.func176 rfl (by kernel_rfl) (by kernel_rfl) fun hc hw => ?_
  repeat' (first | simp -implicitDefEqProofs only [go_sem] | refine acond_ndec (fun _ => ?_) (fun _ => ?_) | simp -implicitDefEqProofs (disch := omega) only [wrap_in, u8_small, Int.tmod_eq_emod_of_nonneg, Int.tdiv_eq_ediv_of_nonneg] | refine ACallK.eq (within_ok _ _ _ _ _) ?_ | refine retK_eq ?_)
  all_goals first
    | (rw [if_pos (by omega)]; done)
    | (rw [if_neg (by omega)]; done)
end Go.Proofs.YtipfnhfcoolhaaaGreat.Aw
end
section
namespace Go.Proofs.YtipfnhfcoolhaaaGreat.Aw
open Go Go.RowKit
set_option maxRecDepth 100000
set_option maxHeartbeats 2000000
attribute [-go_sem] wr_eq
theorem add_ok (W0 : World) (bw bj oj t : Nat) (vj vt : AV) (pre post : List AV) (w : WorldD) (j : JobD) (i n : Int) (S : List Nat) (H : AH) (hp : MvP H S bw bj oj t vj vt pre post w j) (hok : cellsOk w.cells = true) (hi : 0 ≤ i ∧ i ≤ 70) (hnn : -281474976710655 ≤ n ∧ n ≤ 281474976710655) :
    ACalls Tryz.prog W0 175 [mvA bw bj oj t, .v (.int .i64 i), .v (.int .i64 n)] H (fun r H' => r = .v (.int .i64 (cget w i.toNat)) ∧ MvR H S bw bj vj vt pre post (cadd w i.toNat n, j) H') := by
  refine acallw Tryz.func175 rfl (by kernel_rfl) (by kernel_rfl) fun hc hw => ?_
  obtain ⟨⟨hn, vc, vl, cj, Sc, Sl, Sj, rfl, bB, jB, oc, ol, oj_⟩, hll, hj, ht, hnw, htt, hpl⟩ := hp
  obtain ⟨vk, vr, Sk, Sr, rfl, rfl, f0, f1, f2, f3, f4, f5, f6, f7, f8, f9, f10, f11, f12, f13, f14, f15, f16⟩ := oj_
  have lc := oc.leaf; have cc := oc.one
  have ll := ol.leaf; have cl := ol.one
  have lk := f15.leaf; have ck := f15.one
  have lr := f16.leaf; have cr := f16.one
  obtain ⟨lj, cj⟩ := hj
  obtain ⟨lt, ct⟩ := ht
  have hm0 : Mv H (bw :: bj :: (Sc ++ (Sl ++ (Sk ++ Sr)))) bw bj vj vt pre post w j := ⟨hn, vc, vl, _, Sc, Sl, Sk ++ Sr, rfl, bB, jB, oc, ol, vk, vr, Sk, Sr, rfl, rfl, f0, f1, f2, f3, f4, f5, f6, f7, f8, f9, f10, f11, f12, f13, f14, f15, f16⟩
  have hnS : ∀ b ∈ bw :: bj :: (Sc ++ (Sl ++ (Sk ++ Sr))), b < H.nxt := fun b hb => hw.lt' (hm0.isin b hb)
  obtain ⟨hnw1, hnj1, hne, hne', hU, nwU, njU, mC, mL, mK, mR, z0, z1, z2, y0, z0', y0', y1, y2⟩ := mvf hn hnS
  simp only [wcs] at bB
  simp only [List.cons_append, List.nil_append] at jB
  have hu := oc.slr (W0 := W0)
  repeat' (first | simp -implicitDefEqProofs only [go_sem] | (simp -implicitDefEqProofs (disch := omega) only [bB, jB, hne, hne', z0, z1, z2, y0, y1, y2, z0', y0', blk_set_self, wr_pre hpl, wr_pre0 hpl, drop_pre hpl, drop_pre0 hpl, lc, cc, ll, cl, lk, ck, lr, cr, lj, cj, lt, ct, wr_succ, wr_zero, wr_none, set_set, Bool.and_self, if_false, List.length_append, List.length_cons]) | ((with_reducible refine adraw_plan [(0, []), (1, []), (2, []), (3, []), (4, []), (5, []), (6, []), (7, []), (8, []), (9, [0, 1]), (10, []), (11, []), (12, []), (13, []), (14, []), (15, [12]), (16, [])] ?_ ?_ ?_); (· kernel_rfl); (· decide +kernel)))
  obtain ⟨H0, hH0⟩ : ∃ X, X = H.new [.ptr bw 0, .v (.int .i64 t), .ptr bj oj] 3 := ⟨_, rfl⟩
  rw [← hH0]
  have s0 : Sub H H0 := by rw [hH0]; exact (Sub.refl _).new hw _ _
  have w0 : H0.wf := by rw [hH0]; exact hw.new _ _
  have k0 : H0.blk H.nxt = some ⟨[.ptr bw 0, .v (.int .i64 t), .ptr bj oj], 3⟩ := by rw [hH0]; exact blk_new_self _ _ _
  clear hH0
  refine ACallK.of (AddCell_in _ vc w.cells i n _ (hu.sub s0) hok hi hnn).cl ?_
  rintro _ H1 ⟨⟨v1, rfl, s1, S1, o1, F1⟩, c1⟩
  have z := s0.trans s1
  have b0 := z.2 bw _ bB
  have b1 := z.2 bj _ jB
  have b2 := s1.2 _ _ k0
  have l1 := o1.leaf; have p1 := o1.one
  repeat' (first | simp -implicitDefEqProofs only [go_sem] | (simp -implicitDefEqProofs (disch := omega) only [b0, b1, b2, bB, jB, hne, hne', z0, z1, z2, y0, y1, y2, z0', y0', blk_set_self, wr_pre hpl, wr_pre0 hpl, drop_pre hpl, drop_pre0 hpl, lc, cc, ll, cl, lk, ck, lr, cr, lj, cj, lt, ct, wr_succ, wr_zero, wr_none, set_set, Bool.and_self, if_false, List.length_append, List.length_cons, l1, p1]))
  have k15 := f15.sub z
  have k16 := f16.sub z
  have gU := (Upd.cells hn (fun b hb => Nat.lt_of_lt_of_le (hnS b hb) s0.1) s1 F1).start s0
  refine retK_one ⟨rfl, MvR.fin (w' := cadd w i.toNat n) c1.1 hm0.in2 gU o1 (ol.sub z) ⟨vk, vr, Sk, Sr, rfl, rfl, f0, f1, f2, f3, f4, f5, f6, f7, f8, f9, f10, f11, f12, f13, f14, k15, k16⟩ hw (fun b h1 h2 _ => ?_) (Nat.le_refl _) ?_ ?_⟩
  · simp only [blk_set, if_neg h1]
  · exact blk_set_self _ _ _
  · simp only [blk_set, hne', if_false]; exact b1
end Go.Proofs.YtipfnhfcoolhaaaGreat.Aw
end
section
namespace Go.Proofs.YtipfnhfcoolhaaaGreat.Aw
open Go Go.RowKit
theorem untag_I (n : Int) : 0 ≤ (untag n).2 ∧ (untag n).2 ≤ 3 := by unfold untag; split <;> simp <;> omega
theorem slotBase_of {b s : Int} (hb : 0 ≤ b ∧ b ≤ 1) (hs : 0 ≤ s ∧ s ≤ 3) : slotBase b s = 7 + b * 32 + s * 8 := by rw [slotBase, if_pos ⟨hb, hs⟩]
theorem packGauge_W (s v : Int) : wordP (packGauge s v) := by unfold packGauge wordP; split <;> omega
theorem packGauge_I (s v : Int) : inI64 (packGauge s v) := by have := packGauge_W s v; unfold wordP at this; simp only [inI64]; omega
structure DataP (w : WorldD) (j : JobD) : Prop where
  ok : cellsOk w.cells = true
  e : 0 ≤ j.e ∧ j.e ≤ 281474976710655
  slot : 0 ≤ j.slot ∧ j.slot ≤ 3
  val : 0 ≤ j.op.val ∧ j.op.val ≤ 65535
theorem DataP.base {w : WorldD} {j : JobD} (h : DataP w j) : slotBase (j.e % 2) j.slot = 7 + j.e % 2 * 32 + j.slot * 8 ∧ baseD j = 7 + (j.e % 2).toNat * 32 + j.slot.toNat * 8 ∧ 0 ≤ j.e % 2 ∧ j.e % 2 ≤ 1 := by
  have h1 := h.e
  have h2 := h.slot
  have h3 := slotBase_of (b := j.e % 2) (s := j.slot) (by omega) h2
  refine ⟨h3, ?_, by omega, by omega⟩
  unfold baseD; rw [h3]; omega
end Go.Proofs.YtipfnhfcoolhaaaGreat.Aw
end
