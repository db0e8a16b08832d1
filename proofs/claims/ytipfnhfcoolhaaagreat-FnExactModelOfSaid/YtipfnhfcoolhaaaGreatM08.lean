/- Parts of a proof: Fkp Fe Fh Fct Fx. -/
import Derived.Test.YtipfnhfcoolhaaaGreatM07
import Derived.Laws.BitsAllLaws
import Derived.Test.YtipfnhfcoolhaaaGreatM06
import Derived.Test.YtipfnhfcoolhaaaGreatM03
import Derived.Test.YtipfnhfcoolhaaaGreatM02
import Derived.Test.YtipfnhfcoolhaaaGreatM05
set_option linter.unusedVariables false
set_option linter.unusedSimpArgs false
section
namespace Go.Proofs.YtipfnhfcoolhaaaGreat.Aw
open Go Go.RowKit
set_option maxRecDepth 100000
set_option maxHeartbeats 2000000
attribute [-go_sem] aapp2_some
def putKTo (l : List KRowD) (r : KRowD) (i : Nat) : List KRowD := if gtAny (kf := KRowD.key) (l.take i) r.key = true then insK KRowD.key (l.take i) r else l.take i
theorem putKTo_zero (l : List KRowD) (r : KRowD) : putKTo l r 0 = [] := by simp [putKTo, gtAny]
theorem gtAnyK_succ (l : List KRowD) (key : ByteArray) {i : Nat} (h : i < l.length) : gtAny (kf := KRowD.key) (l.take (i + 1)) key = (gtAny (kf := KRowD.key) (l.take i) key || decide (klt key l[i].key)) := by
  unfold gtAny; rw [List.take_succ_eq_append_getElem h, List.any_append]; simp
theorem putKTo_succ (l : List KRowD) (r : KRowD) {i : Nat} (h : i < l.length) : putKTo l r (i + 1) = if gtAny (kf := KRowD.key) (l.take i) r.key = true then putKTo l r i ++ [l[i]] else if klt r.key l[i].key then (putKTo l r i ++ [r]) ++ [l[i]] else putKTo l r i ++ [l[i]] := by
  unfold putKTo
  rw [gtAnyK_succ _ _ h, List.take_succ_eq_append_getElem h]
  rw [insK_snoc]
  by_cases g : gtAny (kf := KRowD.key) (l.take i) r.key = true
  · rw [g]; simp
  · by_cases k : klt r.key l[i].key
    · simp only [Bool.not_eq_true] at g; rw [g]; simp [k]
    · simp only [Bool.not_eq_true] at g; rw [g]; simp [k]
theorem putKTo_length (l : List KRowD) (r : KRowD) (i : Nat) : (putKTo l r i).length ≤ i + 1 := by
  unfold putKTo; split
  · rw [insK_length]; simp; omega
  · simp; omega
theorem putKTo_ok {l : List KRowD} {r : KRowD} (h : ∀ x ∈ l, Flat.ok x) (hr : Flat.ok r) (i : Nat) : ∀ x ∈ putKTo l r i, Flat.ok x := by
  unfold putKTo; intro x hx
  split at hx
  · rcases mem_insK.1 hx with rfl | hx
    · exact hr
    · exact h x (List.mem_of_mem_take hx)
  · exact h x (List.mem_of_mem_take hx)
theorem l13KeyPut_ok (W0 : World) (v : AV) (l : List KRowD) (r : KRowD) (S : List Nat) (H : AH) (ho : OwnS H S v l) (hn : S.Nodup) (hl : l.length ≤ 1000) (hr : Flat.ok r) :
    ACalls Tryz.prog W0 49 [v, .agg [.v (.string r.key), .v (.int .i64 r.kind)]] H (fun u H' => ∃ S', OwnS H' S' u (insK KRowD.key l r) ∧ Upd S H H' S') := by
  refine acallw Tryz.func49 rfl (by kernel_rfl) (by kernel_rfl) fun hc hw => ?_
  have hv := ho.slr (W0 := W0)
  have hok : ∀ x ∈ l, Flat.ok x := by
    rcases ho.flat with ⟨-, rfl, -⟩ | ⟨b, o, cs, -, -, -, -, -, -, h⟩
    · intro x hx; cases hx
    · exact h
  repeat' (first | simp -implicitDefEqProofs only [go_sem])
  have hw0 : (H.new [AV.v (Value.string r.key), AV.v (Value.int IntKind.i64 r.kind)] 2).wf := hw.new _ _
  refine acode_while (fun (p : Nat × Nat) => [(0, v), (3, .ptr H.nxt 0), (5, .sl p.2 0 (putKTo l r p.1).length), (6, .v (.bool (gtAny (kf := KRowD.key) (l.take p.1) r.key))), (7, .v (.int .i64 p.1))]) (fun p H' => Sub (H.new [AV.v (Value.string r.key), AV.v (Value.int IntKind.i64 r.kind)] 2) H' ∧ p.1 ≤ l.length ∧ H.nxt + 1 ≤ p.2 ∧ p.2 < H'.nxt ∧ H'.blk p.2 = some ⟨encL (putKTo l r p.1), 2⟩) (fun p => l.length - p.1) (0, H.nxt + 1) ?_ ?_ (by simp only [frOk, go_sem, putKTo_zero]; simp [gtAny])
  · refine ⟨by repeat (first | exact Sub.refl _ | assumption | refine Sub.new (by assumption) ?_ _ _ | refine Sub.kill_new (by assumption) ?_ _ _ | refine Sub.trans ?_ (by assumption)), by simp only; omega, by simp only; omega, by simp only [go_sem]; omega, by simp only [go_sem, putKTo_zero]; rfl⟩
  rintro ⟨i, b⟩ H' ⟨hs, hi, hb, hbl, hB⟩
  simp only at hi hb hbl hB ⊢
  have hbn : b ≠ H'.nxt := by omega
  have hpl := putKTo_length l r i
  have hpo := putKTo_ok hok hr i
  have hli : ∀ (h : i < l.length), Flat.ok l[i] := fun h => hok _ (List.getElem_mem h)
  have hpo2 : ∀ x ∈ putKTo l r i ++ [r], Flat.ok x := by intro x hx; rcases List.mem_append.1 hx with hx | hx; exact hpo x hx; rw [List.mem_singleton.1 hx]; exact hr
  have hb0 : H.nxt ≤ b := by omega
  have hb0' : (H.new [AV.v (Value.string r.key), AV.v (Value.int IntKind.i64 r.kind)] 2).nxt ≤ b := by simp only [go_sem]; omega
  have hP2 := putKTo_succ l r (i := i)
  have hs0 : Sub H H' := (Sub.new hw (Sub.refl _) _ _).trans hs
  have hs1 := hs
  repeat' (first | simp -implicitDefEqProofs only [go_sem] | (simp only [if_neg hbn, hB]) | (refine aixs_sln (by assumption) ?_ (by repeat (first | exact Sub.refl _ | assumption | refine Sub.new (by assumption) ?_ _ _ | refine Sub.kill_new (by assumption) ?_ _ _ | refine Sub.kill (by assumption) ?_ (by first | omega | (simp only [go_sem]; omega)) | refine Sub.trans ?_ (by assumption)))) | (refine aK_sl (by assumption) (by omega) ?_ (by repeat (first | exact Sub.refl _ | assumption | refine Sub.new (by assumption) ?_ _ _ | refine Sub.kill_new (by assumption) ?_ _ _ | refine Sub.kill (by assumption) ?_ (by first | omega | (simp only [go_sem]; omega)) | refine Sub.trans ?_ (by assumption))); rintro _ ⟨rfl, _⟩) | (refine acc2 (xs := putKTo l r i) (r := r) rfl rfl rfl hpo hr rfl ?_) | (refine acc2 (xs := putKTo l r i) (r := l[i]) rfl rfl rfl hpo (hli _) rfl ?_) | (refine acc2 (xs := putKTo l r i ++ [r]) (r := l[i]) rfl (by simp) rfl hpo2 (hli _) rfl ?_ (by decide) (by decide) rfl (by simp only [List.length_append, List.length_singleton]; omega)) | refine acond_dec (fun _ => ?_) (fun _ => ?_) | refine abi_len_sl' (by assumption) ?_ | refine afa_sl (by assumption) ?_ | simp -implicitDefEqProofs (disch := omega) only [wrap_in, u8_small, Int.tmod_eq_emod_of_nonneg, Int.tdiv_eq_ediv_of_nonneg] | refine aK_sub (by assumption) ?_ | ((with_reducible refine adraw_seq ?_ ?_ ?_); (· kernel_rfl); (· decide +kernel)) | simp -implicitDefEqProofs only [go_sem, slCells_own, aapp_own] | refine acond_split (fun _ => ?_) (fun _ => ?_) | refine agrd_bt (fun _ => ?_) (fun _ => ?_))
  · have hil : i < l.length := by omega
    have hg : gtAny (kf := KRowD.key) (l.take i) r.key = false := by simp_all
    have hne : ¬ l[i].key = r.key := by intro h; simp_all
    have hk : klt r.key l[i].key := klt_gtr (by simp_all) hne
    have e := hP2 hil
    rw [hg, if_neg (by decide), if_pos hk] at e
    have e2 := gtAnyK_succ l r.key hil
    rw [hg, decide_eq_true hk] at e2
    refine back (i + 1, H'.nxt + 3) ⟨by repeat (first | exact Sub.refl _ | assumption | refine Sub.new (by assumption) ?_ _ _ | refine Sub.kill_new (by assumption) ?_ _ _ | refine Sub.kill (by assumption) ?_ (by first | omega | (simp only [go_sem]; omega)) | refine Sub.trans ?_ (by assumption)), by simp only; omega, by simp only; omega, by simp only [go_sem]; omega, ?_⟩ (by simp only; omega) ?_
    · simp only [e]; simp only [go_sem]
    · simp only [frOk, go_sem, e, e2]; simp
  · have hil : i < l.length := by omega
    have hg : gtAny (kf := KRowD.key) (l.take i) r.key = false := by simp_all
    have hk : ¬ klt r.key l[i].key := fun h => by
      have h1 := klt_asymm h
      have h2 : ¬ l[i].key = r.key := fun h2 => klt_irrefl _ (h2 ▸ h)
      unfold klt at h1; simp_all
    have e := hP2 hil
    rw [hg, if_neg (by decide), if_neg hk] at e
    have e2 := gtAnyK_succ l r.key hil
    rw [hg, decide_eq_false hk] at e2
    refine back (i + 1, H'.nxt + 1) ⟨by repeat (first | exact Sub.refl _ | assumption | refine Sub.new (by assumption) ?_ _ _ | refine Sub.kill_new (by assumption) ?_ _ _ | refine Sub.kill (by assumption) ?_ (by first | omega | (simp only [go_sem]; omega)) | refine Sub.trans ?_ (by assumption)), by simp only; omega, by simp only; omega, by simp only [go_sem]; omega, ?_⟩ (by simp only; omega) ?_
    · simp only [e]; simp only [go_sem]
    · simp only [frOk, go_sem, e, e2, hg]; simp
  · have hil : i < l.length := by omega
    have hg : gtAny (kf := KRowD.key) (l.take i) r.key = true := by simp_all
    have e := hP2 hil
    rw [if_pos hg] at e
    have e2 := gtAnyK_succ l r.key hil
    rw [hg] at e2
    refine back (i + 1, H'.nxt + 1) ⟨by repeat (first | exact Sub.refl _ | assumption | refine Sub.new (by assumption) ?_ _ _ | refine Sub.kill_new (by assumption) ?_ _ _ | refine Sub.kill (by assumption) ?_ (by first | omega | (simp only [go_sem]; omega)) | refine Sub.trans ?_ (by assumption)), by simp only; omega, by simp only; omega, by simp only [go_sem]; omega, ?_⟩ (by simp only; omega) ?_
    · simp only [e]; simp only [go_sem]
    · simp only [frOk, go_sem, e, e2, hg]; simp
  · have hil : i = l.length := by omega
    subst hil
    have hg : gtAny (kf := KRowD.key) l r.key = false := by simp_all
    have e : insK KRowD.key l r = putKTo l r l.length ++ [r] := by
      unfold putKTo
      rw [List.take_length, hg, if_neg (by decide), insK_none hg]
    rw [e]
    refine retK_one ⟨[H'.nxt + 1], OwnS.ofFlat (cs := encL (putKTo l r l.length ++ [r])) (by simp only [go_sem]; rfl) ?_ ?_ (by simp only [big, List.length_append, List.length_singleton]; omega) hpo2 (by simp), Upd.ofSub (by repeat (first | exact Sub.refl _ | assumption | refine Sub.new (by assumption) ?_ _ _ | refine Sub.kill_new (by assumption) ?_ _ _ | refine Sub.kill (by assumption) ?_ (by first | omega | (simp only [go_sem]; omega)) | refine Sub.trans ?_ (by assumption))) ⟨by simp, by intro x hx; simp at hx; omega⟩⟩
    · rw [List.drop_zero]; exact List.take_of_length_le (by rw [encL_len hpo2]; exact Nat.le_refl _)
    · rw [encL_len hpo2]; omega
  · have hil : i = l.length := by omega
    subst hil
    have hg : gtAny (kf := KRowD.key) l r.key = true := by simp_all
    have e : insK KRowD.key l r = putKTo l r l.length := by
      unfold putKTo
      rw [List.take_length, if_pos hg]
    rw [e]
    refine retK_one ⟨[b], OwnS.ofFlat (cs := encL (putKTo l r l.length)) hB ?_ ?_ (by simp only [big]; omega) hpo rfl, Upd.ofSub hs0 ⟨by simp, by intro x hx; simp at hx; omega⟩⟩
    · rw [List.drop_zero]; exact List.take_of_length_le (by rw [encL_len hpo]; exact Nat.le_refl _)
    · rw [encL_len hpo]; omega
end Go.Proofs.YtipfnhfcoolhaaaGreat.Aw
end
section
namespace Go.Proofs.YtipfnhfcoolhaaaGreat.Aw
open Go Go.RowKit
set_option maxRecDepth 100000
set_option maxHeartbeats 2000000
theorem hash_lt (s : ByteArray) (i : Nat) : hashN s i ^^^ (bt s i).toNat < 4294967296 := by
  refine Nat.xor_lt_two_pow (n := 32) (hashN_lt s i) ?_
  have := bt_le s i
  omega
theorem ofInt_nat64 (a : Nat) (h : a < 4294967296) : (BitVec.ofInt 64 (a : Int)).toNat = a := by
  simp [BitVec.toNat_ofInt]; omega
theorem xor64 (a b : Nat) (ha : a < 4294967296) (hb : b < 4294967296) : bits .xor .i64 (a : Int) (b : Int) = ((a ^^^ b : Nat) : Int) := by
  have hx : a ^^^ b < 2 ^ 32 := Nat.xor_lt_two_pow (by omega) (by omega)
  show IntKind.i64.wrap ((BitVec.ofInt 64 (a : Int) ^^^ BitVec.ofInt 64 (b : Int)).toNat : Int) = _
  rw [BitVec.toNat_xor, ofInt_nat64 a ha, ofInt_nat64 b hb, wrap_in _ (by omega) (by omega)]
theorem bt_nat (s : ByteArray) (i : Nat) : bt s i = ((bt s i).toNat : Int) := by have := bt_le s i; omega
theorem hash_xor64 (s : ByteArray) (i : Nat) : bits .xor .i64 ((hashN s i : Nat) : Int) (bt s i) = ((hashN s i ^^^ (bt s i).toNat : Nat) : Int) := by
  have := bt_le s i
  have h := xor64 (hashN s i) (bt s i).toNat (hashN_lt s i) (by omega)
  rwa [← bt_nat] at h
theorem hash_xor32 (s : ByteArray) (i : Nat) : bits .xor .u32 ((hashN s i : Nat) : Int) (bt s i) = ((hashN s i ^^^ (bt s i).toNat : Nat) : Int) := by
  have := bt_le s i
  have h := u32_xor_nat (hashN s i) (bt s i).toNat (hashN_lt s i) (by omega)
  rwa [← bt_nat] at h
theorem wrap_u32 (n : Int) : IntKind.u32.wrap n = n % 4294967296 := by simp [IntKind.wrap, IntKind.bits, IntKind.signed]
theorem HashKey_spec (W0 : World) (s : ByteArray) (H : AH) (hs : s.size ≤ big) : ACalls Tryz.prog W0 254 [.v (.string s)] H (fun v H' => v = .v (.int .i64 (hashK s)) ∧ H' = H) := by
  refine acallw Tryz.func254 rfl (by kernel_rfl) (by kernel_rfl) fun hc hw => ?_
  simp only [big] at hs
  repeat' (first | simp -implicitDefEqProofs only [go_sem])
  refine acode_while (fun i : Nat => [(0, .v (.string s)), (3, .v (.int .i64 (hashN s i : Nat))), (4, .v (.int .i64 i))]) (fun i H' => H' = H ∧ i ≤ s.size) (fun i => s.size - i) 0 ⟨rfl, by omega⟩ ?_ (by simp only [frOk, go_sem]; simp [hashN])
  rintro i _ ⟨rfl, hi⟩
  have hx := hash_lt s i
  repeat' (first | simp -implicitDefEqProofs only [go_sem] | (rw [hash_xor64 s i]) | (simp -implicitDefEqProofs (disch := omega) only [wrap_in, Int.tmod_eq_emod_of_nonneg]) | refine acond_dec (fun _ => ?_) (fun _ => ?_) | refine aix_strn (fun _ _ => ?_) | refine retK_eq ?_)
  · exact back (i + 1) (by omega) (by omega) (by simp only [frOk, go_sem]; exact ⟨iv (by simp only [hashN]; omega), iv (by omega)⟩)
  · obtain rfl : i = s.size := by omega
    rfl
theorem HashKey_impl (W0 : World) (s : ByteArray) (H : AH) (hs : s.size ≤ big) : ACalls Tryz.prog W0 244 [.v (.string s)] H (fun v H' => v = .v (.int .i64 (hashK s)) ∧ H' = H) := by
  refine acallw Tryz.func244 rfl (by kernel_rfl) (by kernel_rfl) fun hc hw => ?_
  simp only [big] at hs
  repeat' (first | simp -implicitDefEqProofs only [go_sem])
  refine acode_while (fun i : Nat => [(0, .v (.string s)), (3, .v (.int .u32 (hashN s i : Nat))), (6, .v (.int .i64 s.size)), (7, .v (.int .i64 i))]) (fun i H' => H' = H ∧ i ≤ s.size) (fun i => s.size - i) 0 ⟨rfl, by omega⟩ ?_ (by simp only [frOk, go_sem]; simp [hashN])
  rintro i _ ⟨rfl, hi⟩
  have hx := hash_lt s i
  have hn := hashN_lt s i
  have hb := bt_le s i
  repeat' (first | simp -implicitDefEqProofs only [go_sem] | (rw [show IntKind.u32.wrap (bt s i) = bt s i by rw [wrap_u32]; omega]) | (rw [hash_xor32 s i]) | (simp -implicitDefEqProofs (disch := omega) only [wrap_in, wrap_u32]) | refine acond_dec (fun _ => ?_) (fun _ => ?_) | refine aix_strn (fun _ _ => ?_) | refine retK_eq ?_)
  · exact back (i + 1) (by omega) (by omega) (by simp only [frOk, go_sem]; exact ⟨iv (by simp only [hashN]; omega), iv (by omega)⟩)
  · obtain rfl : i = s.size := by omega
    rfl
theorem hashK_bd (s : ByteArray) : 0 ≤ hashK s ∧ hashK s < 4294967296 := by
  have := hashN_lt s s.size
  unfold hashK; omega
theorem Probe_spec (W0 : World) (s : ByteArray) (n : Int) (H : AH) (hs : s.size ≤ big) : ACalls Tryz.prog W0 204 [.v (.string s), .v (.int .i64 n)] H (fun v H' => v = .v (.int .i64 (probe s n)) ∧ H' = H) := by
  refine acallw Tryz.func204 rfl (by kernel_rfl) (by kernel_rfl) fun hc hw => ?_
  have hh := hashK_bd s
  unfold probe
  repeat' (first | simp -implicitDefEqProofs only [go_sem] | refine acond_ndec (fun _ => ?_) (fun _ => ?_) | simp -implicitDefEqProofs (disch := omega) only [wrap_in, u8_small, Int.tmod_eq_emod_of_nonneg, Int.tdiv_eq_ediv_of_nonneg] | refine ACallK.eq (KeyOk_spec _ _ _ hs) ?_ | refine ACallK.eq (l1In_ok _ _ _ _ _) ?_ | refine ACallK.eq (HashKey_spec _ _ _ hs) ?_ | refine agrd_bf (fun _ => ?_) (fun _ => ?_) | refine retK_eq ?_)
  all_goals (refine iv ?_; first | (rw [if_neg (fun k => by simp_all; done)]; done) | (rw [if_pos (by simp_all)]; first | done | omega) | (rw [if_neg (fun k => by simp_all; omega)]))
theorem Probe_impl (W0 : World) (s : ByteArray) (n : Int) (H : AH) (hs : s.size ≤ big) : ACalls Tryz.prog W0 172 [.v (.string s), .v (.int .i64 n)] H (fun v H' => v = .v (.int .i64 (probe s n)) ∧ H' = H) := by
  refine acallw Tryz.func172 rfl (by kernel_rfl) (by kernel_rfl) fun hc hw => ?_
  have hh := hashK_bd s
  unfold probe
  repeat' (first | simp -implicitDefEqProofs only [go_sem] | refine acond_ndec (fun _ => ?_) (fun _ => ?_) | simp -implicitDefEqProofs (disch := omega) only [wrap_in, u8_small, Int.tmod_eq_emod_of_nonneg, Int.tdiv_eq_ediv_of_nonneg] | refine ACallK.eq (KeyOk_impl _ _ _ hs) ?_ | refine ACallK.eq (within_ok _ _ _ _ _) ?_ | refine ACallK.eq (HashKey_impl _ _ _ hs) ?_ | refine agrd_bf (fun _ => ?_) (fun _ => ?_) | refine retK_eq ?_)
  all_goals (refine iv ?_; first | (rw [if_neg (fun k => by simp_all; done)]; done) | (rw [if_pos (by simp_all)]; first | done | omega) | (rw [if_neg (fun k => by simp_all; omega)]))
end Go.Proofs.YtipfnhfcoolhaaaGreat.Aw
end
section
namespace Go.Proofs.YtipfnhfcoolhaaaGreat.Aw
open Go Go.RowKit
set_option maxRecDepth 100000
set_option maxHeartbeats 2000000
attribute [-go_sem] wr_eq
theorem copied_ok (W0 : World) (v : AV) (a : List Int) (H : AH) (ha : SlR W0 H v a) (hl : a.length ≤ 1000000000000) : ACalls Tryz.prog W0 99 [v] H (fun u H' => NewS H H' u a) := by
  refine acallw Tryz.func99 rfl (by kernel_rfl) (by kernel_rfl) fun hc hw => ?_
  repeat' (first | simp -implicitDefEqProofs only [go_sem] | (refine app_new ha (by repeat (first | exact Sub.refl _ | assumption | refine Sub.new (by assumption) ?_ _ _ | refine Sub.kill_new (by assumption) ?_ _ _ | refine Sub.trans ?_ (by assumption))) (by simp only [go_sem]) (Nat.le_refl _) hw ?_; intro H' hs hN) | fail)
  exact retK_one hN
theorem l2Copy_ok (W0 : World) (v : AV) (a : List Int) (H : AH) (ha : SlR W0 H v a) (hl : a.length ≤ 1000000000000) : ACalls Tryz.prog W0 111 [v] H (fun u H' => NewS H H' u a) := by
  refine acallw Tryz.func111 rfl (by kernel_rfl) (by kernel_rfl) fun hc hw => ?_
  repeat' (first | simp -implicitDefEqProofs only [go_sem] | (refine app_new ha (by repeat (first | exact Sub.refl _ | assumption | refine Sub.new (by assumption) ?_ _ _ | refine Sub.kill_new (by assumption) ?_ _ _ | refine Sub.trans ?_ (by assumption))) (by simp only [go_sem]) (Nat.le_refl _) hw ?_; intro H' hs hN) | fail)
  exact retK_one hN
theorem CloneInt_ok (W0 : World) (v : AV) (a : List Int) (H : AH) (ha : SlR W0 H v a) (hl : a.length ≤ 1000000000000) : ACalls Tryz.prog W0 192 [v] H (fun u H' => NewS H H' u a) := by
  refine acallw Tryz.func192 rfl (by kernel_rfl) (by kernel_rfl) fun hc hw => ?_
  rcases ha.cases with ⟨b, o, n, rfl⟩ | ⟨n, c, rfl, rfl⟩ | ⟨ad, n, c, rfl⟩
  · repeat' (first | simp -implicitDefEqProofs only [go_sem] | (refine app_new ha (by repeat (first | exact Sub.refl _ | assumption | refine Sub.new (by assumption) ?_ _ _ | refine Sub.kill_new (by assumption) ?_ _ _ | refine Sub.trans ?_ (by assumption))) (by simp only [go_sem]) (Nat.le_refl _) hw ?_; intro H' hs hN) | fail)
    exact retK_one hN
  · repeat' (first | simp -implicitDefEqProofs only [go_sem] | (simp -implicitDefEqProofs only [Option.isNone_none, Option.isNone_some, go_sem]))
    exact retK_one ⟨Sub.refl _, [], .inl ⟨rfl, rfl, rfl⟩, Fresh.nil _⟩
  · repeat' (first | simp -implicitDefEqProofs only [go_sem] | (simp -implicitDefEqProofs only [Option.isNone_none, Option.isNone_some, go_sem]) | (refine app_new ha (by repeat (first | exact Sub.refl _ | assumption | refine Sub.new (by assumption) ?_ _ _ | refine Sub.kill_new (by assumption) ?_ _ _ | refine Sub.trans ?_ (by assumption))) (by simp only [go_sem]) (Nat.le_refl _) hw ?_; intro H' hs hN) | fail)
    exact retK_one hN
theorem LoadCell_impl (W0 : World) (v : AV) (a : List Int) (i : Int) (H : AH) (ha : SlR W0 H v a) : ACalls Tryz.prog W0 193 [v, .v (.int .i64 i)] H (fun u H' => u = .tup [.v (.int .i64 (loadC a i).1), .v (.bool (loadC a i).2)] ∧ H' = H) := by
  refine acallw Tryz.func193 rfl (by kernel_rfl) (by kernel_rfl) fun hc hw => ?_
  have hb := ha.2.1; simp only [big] at hb
  by_cases hc : cellsOk a = true
  · have hl := cellsOk_len hc
    by_cases hi : 0 ≤ i ∧ i ≤ 70
    · rw [loadC, if_pos ⟨hc, hi⟩]
      repeat' (first | simp -implicitDefEqProofs only [go_sem] | (refine ACallK.eq (CellsOk_impl _ _ a _ (SlR.sub' ha)) ?_; rw [hc]) | (simp -implicitDefEqProofs (disch := omega) only [wrap_in]) | refine ACallK.eq (within_ok _ _ _ _ _) ?_ | (refine ixI ha ?_) | (refine rdI ha ?_) | refine acond_ndecT (by omega) ?_ | refine abi_len_sl' (by assumption) ?_ | refine retK_eq ?_)
      all_goals first | rfl | (exfalso; omega)
    · rw [loadC, if_neg (fun k => hi k.2)]
      repeat' (first | simp -implicitDefEqProofs only [go_sem] | (refine ACallK.eq (CellsOk_impl _ _ a _ (SlR.sub' ha)) ?_; rw [hc]) | (simp -implicitDefEqProofs (disch := omega) only [wrap_in]) | refine ACallK.eq (within_ok _ _ _ _ _) ?_ | refine acond_ndecF (by omega) ?_ | refine abi_len_sl' (by assumption) ?_ | refine retK_eq ?_)
      all_goals first | rfl | (exfalso; omega)
  · rw [loadC, if_neg (fun k => hc k.1)]
    simp only [Bool.not_eq_true] at hc
    repeat' (first | simp -implicitDefEqProofs only [go_sem] | (refine ACallK.eq (CellsOk_impl _ _ a _ (SlR.sub' ha)) ?_; rw [hc]) | refine retK_eq ?_)
    all_goals rfl
theorem loadC_iff (a : List Int) (i : Int) : (loadC a i).2 = true ↔ cellsOk a = true ∧ 0 ≤ i ∧ i ≤ 70 := by
  unfold loadC; split <;> simp_all
theorem StoreCell_impl (W0 : World) (v : AV) (a : List Int) (i n : Int) (H : AH) (ha : SlR W0 H v a) (hl : a.length ≤ 1000000000000) : ACalls Tryz.prog W0 107 [v, .v (.int .i64 i), .v (.int .i64 n)] H (fun u H' => ∃ v', u = .tup [v', .v (.bool (storeC a i n).2)] ∧ NewS H H' v' (storeC a i n).1) := by
  refine acallw Tryz.func107 rfl (by kernel_rfl) (by kernel_rfl) fun hc hw => ?_
  repeat' (first | simp -implicitDefEqProofs only [go_sem])
  refine ACallK.of (CloneInt_ok _ v a _ ha hl).cl ?_
  rintro u H1 ⟨⟨s1, S1, o1, f1⟩, c1⟩
  have hu := o1.slr (W0 := W0)
  by_cases hp : cellsOk a = true ∧ (0 ≤ i ∧ i ≤ 70) ∧ wordP n
  · obtain ⟨h1, h2, h3⟩ := hp
    have hw3 := h3
    unfold wordP at hw3
    have hlen := cellsOk_len h1
    rw [storeC, if_pos ⟨h1, h2, h3⟩]
    repeat' (first | simp -implicitDefEqProofs only [go_sem] | (refine ACallK.eq (LoadCell_impl _ _ a _ _ (SlR.sub' ha)) ?_; rw [loadC, if_pos ⟨h1, h2⟩]) | (refine ACallK.eq (isWord_ok _ _ _) ?_; rw [decide_eq_true hw3]) | (refine ixI hu ?_) | (refine stI o1 c1.1 ?_; intro H2 w2 g2 o2))
    exact retK_two ⟨u, rfl, Chg.newS hw s1 f1 g2 o2⟩
  · rw [storeC, if_neg hp]
    repeat' (first | simp -implicitDefEqProofs only [go_sem] | (refine ACallK.eq (LoadCell_impl _ _ a _ _ (SlR.sub' ha)) ?_) | refine ACallK.eq (isWord_ok _ _ _) ?_ | refine acond_ndec (fun _ => ?_) (fun _ => ?_) | refine agrd_bf (fun _ => ?_) (fun _ => ?_))
    all_goals first
      | exact retK_two ⟨u, rfl, s1, S1, o1, f1⟩
      | (exfalso; rename_i h1 h2; have h3 := (loadC_iff a i).1 (by simp_all); exact hp ⟨h3.1, h3.2, by unfold wordP; omega⟩)
theorem addC_eq {a : List Int} {i n : Int} (h : cellsOk a = true ∧ (0 ≤ i ∧ i ≤ 70) ∧ -281474976710655 ≤ n ∧ n ≤ 281474976710655) : addC a i n = (a.set i.toNat ((a.getD i.toNat 0 + n) % 281474976710656), a.getD i.toNat 0) := by rw [addC, if_pos h]
theorem AddCell_impl (W0 : World) (v : AV) (a : List Int) (i n : Int) (H : AH) (ha : SlR W0 H v a) (hl : a.length ≤ 1000000000000) : ACalls Tryz.prog W0 102 [v, .v (.int .i64 i), .v (.int .i64 n)] H (fun u H' => ∃ v', u = .tup [v', .v (.int .i64 (addC a i n).2)] ∧ NewS H H' v' (addC a i n).1) := by
  refine acallw Tryz.func102 rfl (by kernel_rfl) (by kernel_rfl) fun hc hw => ?_
  repeat' (first | simp -implicitDefEqProofs only [go_sem])
  refine ACallK.of (CloneInt_ok _ v a _ ha hl).cl ?_
  rintro u H1 ⟨⟨s1, S1, o1, f1⟩, c1⟩
  have hu := o1.slr (W0 := W0)
  by_cases hp : cellsOk a = true ∧ (0 ≤ i ∧ i ≤ 70) ∧ -281474976710655 ≤ n ∧ n ≤ 281474976710655
  · rw [addC_eq hp]
    obtain ⟨h1, h2, h3⟩ := hp
    have hlen := cellsOk_len h1
    have hg := cellsOk_get h1 i.toNat
    unfold wordP at hg
    repeat' (first | simp -implicitDefEqProofs only [go_sem] | (refine ACallK.eq (LoadCell_impl _ _ a _ _ (SlR.sub' ha)) ?_; rw [loadC, if_pos ⟨h1, h2⟩]) | (refine ACallK.eq (within_ok _ _ _ _ _) ?_; rw [decide_eq_true h3]) | (simp -implicitDefEqProofs (disch := omega) only [wrap_in, Int.tmod_eq_emod_of_nonneg]) | (refine ixI hu ?_) | (refine stI o1 c1.1 ?_; intro H2 w2 g2 o2))
    rw [show (a.getD i.toNat 0 + n + 281474976710656) % 281474976710656 = (a.getD i.toNat 0 + n) % 281474976710656 by omega] at o2
    exact retK_two ⟨u, rfl, Chg.newS hw s1 f1 g2 o2⟩
  · rw [addC, if_neg hp]
    repeat' (first | simp -implicitDefEqProofs only [go_sem] | (refine ACallK.eq (LoadCell_impl _ _ a _ _ (SlR.sub' ha)) ?_) | refine ACallK.eq (within_ok _ _ _ _ _) ?_ | refine acond_ndec (fun _ => ?_) (fun _ => ?_) | refine agrd_bf (fun _ => ?_) (fun _ => ?_))
    all_goals first
      | exact retK_two ⟨u, rfl, s1, S1, o1, f1⟩
      | (exfalso; have h3 := (loadC_iff a i).1 (by simp_all); exact hp ⟨h3.1, h3.2, by omega⟩)
def cellC (b s k : Int) : Int := if 0 ≤ slotBase b s then slotBase b s + k else -1
def stripeC (b s k : Int) : Int := if (0 ≤ k ∧ k ≤ 1) ∧ 0 ≤ slotBase b s then slotBase b s + k else -1
def ringC (b s k : Int) : Int := if (0 ≤ k ∧ k ≤ 2) ∧ 0 ≤ slotBase b s then slotBase b s + (5 + k) else -1
theorem slotBase_le (b s : Int) : -1 ≤ slotBase b s ∧ slotBase b s ≤ 63 := by unfold slotBase; split <;> omega
theorem cellOf_ok (W0 : World) (b s k : Int) (H : AH) (hk : 0 ≤ k ∧ k ≤ 100) : ACalls Tryz.prog W0 194 [.v (.int .i64 b), .v (.int .i64 s), .v (.int .i64 k)] H (fun v H' => v = .v (.int .i64 (cellC b s k)) ∧ H' = H) := by
  refine acallw Tryz.func194 rfl (by kernel_rfl) (by kernel_rfl) fun hc hw => ?_
  have hb := slotBase_le b s
  repeat' (first | simp -implicitDefEqProofs only [go_sem] | refine acond_dec (fun _ => ?_) (fun _ => ?_) | simp -implicitDefEqProofs (disch := omega) only [wrap_in, u8_small, Int.tmod_eq_emod_of_nonneg, Int.tdiv_eq_ediv_of_nonneg] | refine ACallK.eq (SlotBase_impl _ _ _ _) ?_ | refine retK_eq ?_)
  all_goals (refine iv ?_; simp only [cellC]; (try rw [Go.IntWalk.i64_in _ (by omega)]); first | done | (split <;> first | done | omega | (split <;> omega)) | omega)
theorem l3Cell_ok (W0 : World) (b s k : Int) (H : AH) (hk : 0 ≤ k ∧ k ≤ 100) : ACalls Tryz.prog W0 253 [.v (.int .i64 b), .v (.int .i64 s), .v (.int .i64 k)] H (fun v H' => v = .v (.int .i64 (cellC b s k)) ∧ H' = H) := by
  refine acallw Tryz.func253 rfl (by kernel_rfl) (by kernel_rfl) fun hc hw => ?_
  have hb := slotBase_le b s
  repeat' (first | simp -implicitDefEqProofs only [go_sem] | refine acond_dec (fun _ => ?_) (fun _ => ?_) | simp -implicitDefEqProofs (disch := omega) only [wrap_in, u8_small, Int.tmod_eq_emod_of_nonneg, Int.tdiv_eq_ediv_of_nonneg] | refine ACallK.eq (SlotBase_spec _ _ _ _) ?_ | refine retK_eq ?_)
  all_goals (refine iv ?_; simp only [cellC]; (try rw [Go.IntWalk.i64_in _ (by omega)]); first | done | (split <;> first | done | omega | (split <;> omega)) | omega)
theorem StripeCell_impl (W0 : World) (b s k : Int) (H : AH) : ACalls Tryz.prog W0 103 [.v (.int .i64 b), .v (.int .i64 s), .v (.int .i64 k)] H (fun v H' => v = .v (.int .i64 (stripeC b s k)) ∧ H' = H) := by
  refine acallw Tryz.func103 rfl (by kernel_rfl) (by kernel_rfl) fun hc hw => ?_
  repeat' (first | simp -implicitDefEqProofs only [go_sem] | refine acond_ndec (fun _ => ?_) (fun _ => ?_) | refine ACallK.eq (within_ok _ _ _ _ _) ?_ | refine ACallK.eq (cellOf_ok _ _ _ _ _ (by omega)) ?_ | refine retK_eq ?_)
  all_goals (refine iv ?_; simp only [stripeC, cellC]; (try rw [Go.IntWalk.i64_in _ (by omega)]); first | done | (split <;> first | done | omega | (split <;> omega)) | omega)
theorem StripeCell_spec (W0 : World) (b s k : Int) (H : AH) : ACalls Tryz.prog W0 196 [.v (.int .i64 b), .v (.int .i64 s), .v (.int .i64 k)] H (fun v H' => v = .v (.int .i64 (stripeC b s k)) ∧ H' = H) := by
  refine acallw Tryz.func196 rfl (by kernel_rfl) (by kernel_rfl) fun hc hw => ?_
  repeat' (first | simp -implicitDefEqProofs only [go_sem] | refine acond_ndec (fun _ => ?_) (fun _ => ?_) | refine ACallK.eq (l1In_ok _ _ _ _ _) ?_ | refine ACallK.eq (l3Cell_ok _ _ _ _ _ (by omega)) ?_ | refine retK_eq ?_)
  all_goals (refine iv ?_; simp only [stripeC, cellC]; (try rw [Go.IntWalk.i64_in _ (by omega)]); first | done | (split <;> first | done | omega | (split <;> omega)) | omega)
theorem RingCell_impl (W0 : World) (b s k : Int) (H : AH) : ACalls Tryz.prog W0 110 [.v (.int .i64 b), .v (.int .i64 s), .v (.int .i64 k)] H (fun v H' => v = .v (.int .i64 (ringC b s k)) ∧ H' = H) := by
  refine acallw Tryz.func110 rfl (by kernel_rfl) (by kernel_rfl) fun hc hw => ?_
  repeat' (first | simp -implicitDefEqProofs only [go_sem] | refine acond_ndec (fun _ => ?_) (fun _ => ?_) | simp -implicitDefEqProofs (disch := omega) only [wrap_in, u8_small, Int.tmod_eq_emod_of_nonneg, Int.tdiv_eq_ediv_of_nonneg] | refine ACallK.eq (within_ok _ _ _ _ _) ?_ | refine ACallK.eq (cellOf_ok _ _ _ _ _ (by omega)) ?_ | refine retK_eq ?_)
  all_goals (refine iv ?_; simp only [ringC, cellC]; (try rw [Go.IntWalk.i64_in _ (by omega)]); first | done | (split <;> first | done | omega | (split <;> omega)) | omega)
theorem RingCell_spec (W0 : World) (b s k : Int) (H : AH) : ACalls Tryz.prog W0 203 [.v (.int .i64 b), .v (.int .i64 s), .v (.int .i64 k)] H (fun v H' => v = .v (.int .i64 (ringC b s k)) ∧ H' = H) := by
  refine acallw Tryz.func203 rfl (by kernel_rfl) (by kernel_rfl) fun hc hw => ?_
  repeat' (first | simp -implicitDefEqProofs only [go_sem] | refine acond_ndec (fun _ => ?_) (fun _ => ?_) | simp -implicitDefEqProofs (disch := omega) only [wrap_in, u8_small, Int.tmod_eq_emod_of_nonneg, Int.tdiv_eq_ediv_of_nonneg] | refine ACallK.eq (l1In_ok _ _ _ _ _) ?_ | refine ACallK.eq (l3Cell_ok _ _ _ _ _ (by omega)) ?_ | refine retK_eq ?_)
  all_goals (refine iv ?_; simp only [ringC, cellC]; (try rw [Go.IntWalk.i64_in _ (by omega)]); first | done | (split <;> first | done | omega | (split <;> omega)) | omega)
theorem StampCell_impl (W0 : World) (b s : Int) (H : AH) : ACalls Tryz.prog W0 104 [.v (.int .i64 b), .v (.int .i64 s)] H (fun v H' => v = .v (.int .i64 (cellC b s 2)) ∧ H' = H) := by
  refine acallw Tryz.func104 rfl (by kernel_rfl) (by kernel_rfl) fun hc hw => ?_
  repeat' (first | simp -implicitDefEqProofs only [go_sem] | refine ACallK.eq (cellOf_ok _ _ _ _ _ (by omega)) ?_ | refine retK_eq ?_)
theorem StampCell_spec (W0 : World) (b s : Int) (H : AH) : ACalls Tryz.prog W0 198 [.v (.int .i64 b), .v (.int .i64 s)] H (fun v H' => v = .v (.int .i64 (cellC b s 2)) ∧ H' = H) := by
  refine acallw Tryz.func198 rfl (by kernel_rfl) (by kernel_rfl) fun hc hw => ?_
  repeat' (first | simp -implicitDefEqProofs only [go_sem] | refine ACallK.eq (l3Cell_ok _ _ _ _ _ (by omega)) ?_ | refine retK_eq ?_)
theorem GaugeCell_impl (W0 : World) (b s : Int) (H : AH) : ACalls Tryz.prog W0 106 [.v (.int .i64 b), .v (.int .i64 s)] H (fun v H' => v = .v (.int .i64 (cellC b s 3)) ∧ H' = H) := by
  refine acallw Tryz.func106 rfl (by kernel_rfl) (by kernel_rfl) fun hc hw => ?_
  repeat' (first | simp -implicitDefEqProofs only [go_sem] | refine ACallK.eq (cellOf_ok _ _ _ _ _ (by omega)) ?_ | refine retK_eq ?_)
theorem GaugeCell_spec (W0 : World) (b s : Int) (H : AH) : ACalls Tryz.prog W0 200 [.v (.int .i64 b), .v (.int .i64 s)] H (fun v H' => v = .v (.int .i64 (cellC b s 3)) ∧ H' = H) := by
  refine acallw Tryz.func200 rfl (by kernel_rfl) (by kernel_rfl) fun hc hw => ?_
  repeat' (first | simp -implicitDefEqProofs only [go_sem] | refine ACallK.eq (l3Cell_ok _ _ _ _ _ (by omega)) ?_ | refine retK_eq ?_)
theorem TicketCell_impl (W0 : World) (b s : Int) (H : AH) : ACalls Tryz.prog W0 109 [.v (.int .i64 b), .v (.int .i64 s)] H (fun v H' => v = .v (.int .i64 (cellC b s 4)) ∧ H' = H) := by
  refine acallw Tryz.func109 rfl (by kernel_rfl) (by kernel_rfl) fun hc hw => ?_
  repeat' (first | simp -implicitDefEqProofs only [go_sem] | refine ACallK.eq (cellOf_ok _ _ _ _ _ (by omega)) ?_ | refine retK_eq ?_)
theorem TicketCell_spec (W0 : World) (b s : Int) (H : AH) : ACalls Tryz.prog W0 202 [.v (.int .i64 b), .v (.int .i64 s)] H (fun v H' => v = .v (.int .i64 (cellC b s 4)) ∧ H' = H) := by
  refine acallw Tryz.func202 rfl (by kernel_rfl) (by kernel_rfl) fun hc hw => ?_
  repeat' (first | simp -implicitDefEqProofs only [go_sem] | refine ACallK.eq (l3Cell_ok _ _ _ _ _ (by omega)) ?_ | refine retK_eq ?_)
end Go.Proofs.YtipfnhfcoolhaaaGreat.Aw
end
section
namespace Go.Proofs.YtipfnhfcoolhaaaGreat.Aw
open Go Go.RowKit
set_option maxRecDepth 100000
set_option maxHeartbeats 2000000
theorem Counted_impl (W0 : World) (cs : List AV) (r : RowD) (v : Int) (H : AH) (hr : Ob.rep W0 H cs r) : ACalls Tryz.prog W0 216 [.agg cs, .v (.int .i64 v)] H (fun u H' => u = .agg (rowCells (counted r v)) ∧ H' = H) := by
  refine acallw Tryz.func216 rfl (by kernel_rfl) (by kernel_rfl) fun hc hw => ?_
  have hr' := hr
  obtain ⟨rfl, hb⟩ := hr'
  by_cases hp : rowP r ∧ r.kind = 1 ∧ 0 ≤ v ∧ v ≤ 65535
  · have hk : rowOk r = true := decide_eq_true hp.1
    have hW : wordP r.sum := by have h := hp.1.2; rw [if_pos hp.2.1] at h; exact h.1
    unfold wordP at hW
    have hv := hp.2.2
    have e1 : (IntKind.i64.wrap (r.sum + v)).tmod 281474976710656 = (r.sum + v) % 281474976710656 := by
      rw [wrap_in _ (by omega) (by omega), Int.tmod_eq_emod_of_nonneg (by omega)]
    repeat' (first | simp -implicitDefEqProofs only [go_sem] | refine acond_dec (fun _ => ?_) (fun _ => ?_) | refine acond_ndec (fun _ => ?_) (fun _ => ?_) | refine agrd_dec (fun _ => ?_) (fun _ => ?_) | refine agrd_decf (fun _ => ?_) (fun _ => ?_) | refine agrd_ndec (fun _ => ?_) (fun _ => ?_) | refine agrd_ndecf (fun _ => ?_) (fun _ => ?_) | refine abi_len_sl' (by assumption) ?_ | refine aixs_sln (by assumption) ?_ | refine afa_sl (by assumption) ?_ | (refine aK_sl (by assumption) (by omega) ?_; first | rintro _ ⟨rfl, _⟩ | (intro _ hx; obtain ⟨_, rfl, _, _⟩ := EvD.out hx) | (intro _ hx; obtain ⟨_, _, rfl, _, _, _⟩ := JobD.out hx) | rintro _ ⟨_, rfl, _⟩) | rw [SlR.one (by assumption)] | rw [SlR.leaf (by assumption)] | simp -implicitDefEqProofs (disch := omega) only [wrap_in, u8_small, Int.tmod_eq_emod_of_nonneg, Int.tdiv_eq_ediv_of_nonneg] | refine aK_sub (by assumption) ?_ | refine aix_strn (fun _ _ => ?_) | ((with_reducible refine adraw_seq ?_ ?_ ?_); (· kernel_rfl); (· decide +kernel)) | refine ACallK.eq (RowOk_impl _ _ r _ (Ob.sub (by repeat (first | exact Sub.refl _ | assumption | refine Sub.new (by assumption) ?_ _ _ | refine Sub.kill_new (by assumption) ?_ _ _ | refine Sub.trans ?_ (by assumption))) hr)) ?_ | rw [hk] | refine ACallK.eq (within_ok _ _ _ _ _) ?_ | rw [e1] | simp -implicitDefEqProofs only [go_sem, slCells_own, aapp_own] | refine And.intro (by omega) (And.intro (by omega) ?_) | refine acond_split (fun _ => ?_) (fun _ => ?_) | refine agrd_bt (fun _ => ?_) (fun _ => ?_) | refine agrd_bf (fun _ => ?_) (fun _ => ?_) | refine retK_eq ?_ | refine retK_back (by assumption) ?_ | refine retK_eq2 ?_ | refine retK_back2 (by assumption) ?_)
    all_goals first
      | (exfalso; omega)
      | (rw [counted, if_pos hp]; rfl)
      | (simp_all [counted]; done)
  · repeat' (first | simp -implicitDefEqProofs only [go_sem] | refine acond_dec (fun _ => ?_) (fun _ => ?_) | refine acond_ndec (fun _ => ?_) (fun _ => ?_) | refine agrd_dec (fun _ => ?_) (fun _ => ?_) | refine agrd_decf (fun _ => ?_) (fun _ => ?_) | refine agrd_ndec (fun _ => ?_) (fun _ => ?_) | refine agrd_ndecf (fun _ => ?_) (fun _ => ?_) | refine abi_len_sl' (by assumption) ?_ | refine aixs_sln (by assumption) ?_ | refine afa_sl (by assumption) ?_ | (refine aK_sl (by assumption) (by omega) ?_; first | rintro _ ⟨rfl, _⟩ | (intro _ hx; obtain ⟨_, rfl, _, _⟩ := EvD.out hx) | (intro _ hx; obtain ⟨_, _, rfl, _, _, _⟩ := JobD.out hx) | rintro _ ⟨_, rfl, _⟩) | rw [SlR.one (by assumption)] | rw [SlR.leaf (by assumption)] | simp -implicitDefEqProofs (disch := omega) only [wrap_in, u8_small, Int.tmod_eq_emod_of_nonneg, Int.tdiv_eq_ediv_of_nonneg] | refine aK_sub (by assumption) ?_ | refine aix_strn (fun _ _ => ?_) | ((with_reducible refine adraw_seq ?_ ?_ ?_); (· kernel_rfl); (· decide +kernel)) | refine ACallK.eq (RowOk_impl _ _ r _ (Ob.sub (by repeat (first | exact Sub.refl _ | assumption | refine Sub.new (by assumption) ?_ _ _ | refine Sub.kill_new (by assumption) ?_ _ _ | refine Sub.trans ?_ (by assumption))) hr)) ?_ | refine ACallK.eq (within_ok _ _ _ _ _) ?_ | simp -implicitDefEqProofs only [go_sem, slCells_own, aapp_own] | refine And.intro (by omega) (And.intro (by omega) ?_) | refine acond_split (fun _ => ?_) (fun _ => ?_) | refine agrd_bt (fun _ => ?_) (fun _ => ?_) | refine agrd_bf (fun _ => ?_) (fun _ => ?_) | refine retK_eq ?_ | refine retK_back (by assumption) ?_ | refine retK_eq2 ?_ | refine retK_back2 (by assumption) ?_)
    all_goals (try rw [show counted r v = r from if_neg hp])
    all_goals first
      | rfl
      | (exfalso; omega)
      | (exfalso; apply hp; simp_all [rowOk]; omega)
      | (exfalso; rename_i x; have := x; apply hp; simp_all [rowOk]; omega)
      | (exfalso; apply hp; simp_all [rowOk]; done)
theorem counted_B {r : RowD} (h : rowB r) (v : Int) : rowB (counted r v) := by
  unfold counted
  split
  · obtain ⟨h1, h2, h3, h4, h5, h6, h7, h8, h9⟩ := h
    exact ⟨h1, h2, by simp only [inI64]; omega, h4, h5, h6, h7, h8, h9⟩
  · exact h
end Go.Proofs.YtipfnhfcoolhaaaGreat.Aw
end
section
namespace Go.Proofs.YtipfnhfcoolhaaaGreat.Aw
open Go Go.RowKit
set_option maxRecDepth 100000
set_option maxHeartbeats 2000000
section
variable {l : List RowD} {i : Nat}
theorem repAt_0 (h : 0 < l.length) : repAt l 0 = (decide (rowP l[0]) && !quiet l[0]) := by
  simp [repAt, rowOk, List.getD_eq_getElem?_getD, List.getElem?_eq_getElem h]
theorem repAt_s {j : Nat} (hk : j + 1 = i) (h : i < l.length) : repAt l i = (decide (rowP l[i]) && !quiet l[i] && !(Op.bytesLess l[i].key.toList l[j].key.toList || decide (l[i].key = l[j].key))) := by
  subst hk
  have h' : j < l.length := by omega
  simp [repAt, rowOk, keyLe, List.getD_eq_getElem?_getD, List.getElem?_eq_getElem h, List.getElem?_eq_getElem h']
theorem reportOk_bad (h : i < l.length) (hp : repAt l i = false) : reportOk l = false := by
  unfold reportOk; rw [range_fail h hp]; rfl
theorem reportOk_done (h : RTo (repAt l) i) (hi : l.length ≤ i) : reportOk l = decide ((l.length : Int) ≤ 4) := by
  unfold reportOk; rw [range_done h hi]; rfl
end
theorem ReportOk_impl (W0 : World) (a : AV) (l : List RowD) (H : AH) (ha : SlR W0 H a l) : ACalls Tryz.prog W0 211 [a] H (fun v H' => v = .v (.bool (reportOk l)) ∧ H' = H) := by
  refine acallw Tryz.func211 rfl (by kernel_rfl) (by kernel_rfl) fun hc hw => ?_
  have hb := ha.2.1; simp only [big] at hb
  repeat' (first | simp -implicitDefEqProofs only [go_sem] | refine acond_dec (fun _ => ?_) (fun _ => ?_) | refine acond_ndec (fun _ => ?_) (fun _ => ?_) | refine agrd_dec (fun _ => ?_) (fun _ => ?_) | refine agrd_decf (fun _ => ?_) (fun _ => ?_) | refine agrd_ndec (fun _ => ?_) (fun _ => ?_) | refine agrd_ndecf (fun _ => ?_) (fun _ => ?_) | refine abi_len_sl' (by assumption) ?_ | refine aixs_sln (by assumption) ?_ | refine afa_sl (by assumption) ?_ | (refine aK_sl (by assumption) (by omega) ?_; first | rintro _ ⟨rfl, _⟩ | (intro _ hx; obtain ⟨_, rfl, _, _⟩ := EvD.out hx) | (intro _ hx; obtain ⟨_, _, rfl, _, _, _⟩ := JobD.out hx) | rintro _ ⟨_, rfl, _⟩) | rw [SlR.one (by assumption)] | rw [SlR.leaf (by assumption)] | simp -implicitDefEqProofs (disch := omega) only [wrap_in, u8_small, Int.tmod_eq_emod_of_nonneg, Int.tdiv_eq_ediv_of_nonneg] | refine aK_sub (by assumption) ?_ | refine aix_strn (fun _ _ => ?_) | ((with_reducible refine adraw_seq ?_ ?_ ?_); (· kernel_rfl); (· decide +kernel)) | simp -implicitDefEqProofs only [go_sem, slCells_own, aapp_own] | refine And.intro (by omega) (And.intro (by omega) ?_) | refine acond_split (fun _ => ?_) (fun _ => ?_) | refine agrd_bt (fun _ => ?_) (fun _ => ?_) | refine agrd_bf (fun _ => ?_) (fun _ => ?_) | refine retK_eq ?_ | refine retK_back (by assumption) ?_ | refine retK_eq2 ?_ | refine retK_back2 (by assumption) ?_)
  refine acode_while (fun i : Nat => [(0, a), (5, a), (6, .v (.int .i64 l.length)), (7, .v (.int .i64 i))]) (fun i H' => Sub H H' ∧ i ≤ l.length ∧ RTo (repAt l) i) (fun i => l.length - i) 0 ⟨by repeat (first | exact Sub.refl _ | assumption | refine Sub.new (by assumption) ?_ _ _ | refine Sub.kill_new (by assumption) ?_ _ _ | refine Sub.trans ?_ (by assumption)), by omega, RTo.zero _⟩ ?_
  rintro i H' ⟨hs, hi, hP⟩
  rcases i with _ | j
  · repeat' (first | simp -implicitDefEqProofs only [go_sem] | refine acond_dec (fun _ => ?_) (fun _ => ?_) | refine acond_ndec (fun _ => ?_) (fun _ => ?_) | refine agrd_dec (fun _ => ?_) (fun _ => ?_) | refine agrd_decf (fun _ => ?_) (fun _ => ?_) | refine agrd_ndec (fun _ => ?_) (fun _ => ?_) | refine agrd_ndecf (fun _ => ?_) (fun _ => ?_) | refine abi_len_sl' (by assumption) ?_ | refine aixs_sln (by assumption) ?_ | refine afa_sl (by assumption) ?_ | (refine aK_sl (by assumption) (by omega) ?_; first | rintro _ ⟨rfl, _⟩ | (intro _ hx; obtain ⟨_, rfl, _, _⟩ := EvD.out hx) | (intro _ hx; obtain ⟨_, _, rfl, _, _, _⟩ := JobD.out hx) | rintro _ ⟨_, rfl, _⟩) | rw [SlR.one (by assumption)] | rw [SlR.leaf (by assumption)] | simp -implicitDefEqProofs (disch := omega) only [wrap_in, u8_small, Int.tmod_eq_emod_of_nonneg, Int.tdiv_eq_ediv_of_nonneg] | refine aK_sub (by assumption) ?_ | refine aix_strn (fun _ _ => ?_) | ((with_reducible refine adraw_seq ?_ ?_ ?_); (· kernel_rfl); (· decide +kernel)) | refine ACallK.eq (RowOk_impl _ _ l[0] _ ⟨rfl, by assumption⟩) ?_ | refine ACallK.eq (Quiet_impl _ _ l[0] _ ⟨rfl, by assumption⟩) ?_ | (exfalso; omega) | simp -implicitDefEqProofs only [go_sem, slCells_own, aapp_own] | refine And.intro (by omega) (And.intro (by omega) ?_) | refine acond_split (fun _ => ?_) (fun _ => ?_) | refine agrd_bt (fun _ => ?_) (fun _ => ?_) | refine agrd_bf (fun _ => ?_) (fun _ => ?_) | refine retK_eq ?_ | refine retK_back (by assumption) ?_ | refine retK_eq2 ?_ | refine retK_back2 (by assumption) ?_)
    all_goals first
      | (exfalso; omega)
      | exact back 1 ⟨by repeat (first | exact Sub.refl _ | assumption | refine Sub.new (by assumption) ?_ _ _ | refine Sub.kill_new (by assumption) ?_ _ _ | refine Sub.trans ?_ (by assumption)), by omega, hP.succ (by rw [repAt_0 (by omega)]; simp only [*, decide_true, Bool.not_false, Bool.and_true])⟩
      | exact back (i + 1) ⟨by repeat (first | exact Sub.refl _ | assumption | refine Sub.new (by assumption) ?_ _ _ | refine Sub.kill_new (by assumption) ?_ _ _ | refine Sub.trans ?_ (by assumption)), by omega, hP.succ (by rw [repAt_s hk (by omega)]; simp only [*, decide_true, Bool.not_false, Bool.and_true])⟩
      | rw [reportOk_done hP (by omega)]
      | rw [reportOk_bad (l := l) (i := 0) (by omega) (by rw [repAt_0 (by omega)]; simp only [*, decide_true, decide_false, Bool.not_true, Bool.and_false, Bool.false_and])]
      | rw [reportOk_bad (l := l) (i := i) (by omega) (by rw [repAt_s hk (by omega)]; simp only [*, decide_true, decide_false, Bool.not_true, Bool.and_false, Bool.false_and])]
  · generalize hk : j + 1 = i at *
    repeat' (first | simp -implicitDefEqProofs only [go_sem] | refine acond_dec (fun _ => ?_) (fun _ => ?_) | refine acond_ndec (fun _ => ?_) (fun _ => ?_) | refine agrd_dec (fun _ => ?_) (fun _ => ?_) | refine agrd_decf (fun _ => ?_) (fun _ => ?_) | refine agrd_ndec (fun _ => ?_) (fun _ => ?_) | refine agrd_ndecf (fun _ => ?_) (fun _ => ?_) | refine abi_len_sl' (by assumption) ?_ | refine aixs_sln (by assumption) ?_ | refine afa_sl (by assumption) ?_ | (refine aK_sl (by assumption) (by omega) ?_; first | rintro _ ⟨rfl, _⟩ | (intro _ hx; obtain ⟨_, rfl, _, _⟩ := EvD.out hx) | (intro _ hx; obtain ⟨_, _, rfl, _, _, _⟩ := JobD.out hx) | rintro _ ⟨_, rfl, _⟩) | rw [SlR.one (by assumption)] | rw [SlR.leaf (by assumption)] | simp -implicitDefEqProofs (disch := omega) only [wrap_in, u8_small, Int.tmod_eq_emod_of_nonneg, Int.tdiv_eq_ediv_of_nonneg] | refine aK_sub (by assumption) ?_ | refine aix_strn (fun _ _ => ?_) | ((with_reducible refine adraw_seq ?_ ?_ ?_); (· kernel_rfl); (· decide +kernel)) | refine ACallK.eq (RowOk_impl _ _ l[i] _ ⟨rfl, by assumption⟩) ?_ | refine ACallK.eq (Quiet_impl _ _ l[i] _ ⟨rfl, by assumption⟩) ?_ | rw [show (i : Int) - 1 = (j : Int) by omega] | simp -implicitDefEqProofs only [go_sem, slCells_own, aapp_own] | refine And.intro (by omega) (And.intro (by omega) ?_) | refine acond_split (fun _ => ?_) (fun _ => ?_) | refine agrd_bt (fun _ => ?_) (fun _ => ?_) | refine agrd_bf (fun _ => ?_) (fun _ => ?_) | refine retK_eq ?_ | refine retK_back (by assumption) ?_ | refine retK_eq2 ?_ | refine retK_back2 (by assumption) ?_)
    all_goals first
      | (exfalso; omega)
      | exact back 1 ⟨by repeat (first | exact Sub.refl _ | assumption | refine Sub.new (by assumption) ?_ _ _ | refine Sub.kill_new (by assumption) ?_ _ _ | refine Sub.trans ?_ (by assumption)), by omega, hP.succ (by rw [repAt_0 (by omega)]; simp only [*, decide_true, Bool.not_false, Bool.and_true])⟩
      | exact back (i + 1) ⟨by repeat (first | exact Sub.refl _ | assumption | refine Sub.new (by assumption) ?_ _ _ | refine Sub.kill_new (by assumption) ?_ _ _ | refine Sub.trans ?_ (by assumption)), by omega, hP.succ (by rw [repAt_s hk (by omega)]; simp only [*, decide_true, Bool.not_false, Bool.and_true])⟩
      | rw [reportOk_done hP (by omega)]
      | rw [reportOk_bad (l := l) (i := 0) (by omega) (by rw [repAt_0 (by omega)]; simp only [*, decide_true, decide_false, Bool.not_true, Bool.and_false, Bool.false_and])]
      | rw [reportOk_bad (l := l) (i := i) (by omega) (by rw [repAt_s hk (by omega)]; simp only [*, decide_true, decide_false, Bool.not_true, Bool.and_false, Bool.false_and])]
end Go.Proofs.YtipfnhfcoolhaaaGreat.Aw
end
