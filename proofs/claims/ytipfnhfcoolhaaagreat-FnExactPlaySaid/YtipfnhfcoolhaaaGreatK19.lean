/- Parts of a proof: HInt HOp HJob HQueue HRow HEv. -/
import Derived.Test.YtipfnhfcoolhaaaGreatK02
import Derived.Test.YtipfnhfcoolhaaaGreatK04
set_option linter.unusedVariables false
set_option linter.unusedSimpArgs false
section
namespace Go.Proofs.YtipfnhfcoolhaaaGreat.Aw
open Go Go.RowKit
set_option maxRecDepth 100000
set_option maxHeartbeats 2000000
attribute [-go_sem] wr_eq
theorem szIntS_ok (W0 : World) (a : AV) (xs : List Int) (left : Int) (H : AH) (ha : SlR W0 H a xs) (h0 : 0 ≤ left) (h1 : left ≤ 1048576) : ACalls Tryz.prog W0 62 [a, .v (.int .i64 left)] H (fun v H' => v = .v (.int .i64 (szLeft left (Ob.sz xs))) ∧ H' = H) := by
  refine acallw Tryz.func62 rfl (by kernel_rfl) (by kernel_rfl) fun hc hw => ?_
  have hb := ha.2.1
  simp only [big] at hb
  rw [obsz_int]
  repeat' (first | simp -implicitDefEqProofs only [go_sem] | (simp -implicitDefEqProofs (disch := omega) only [wrap_in]) | refine acond_dec (fun _ => ?_) (fun _ => ?_) | refine abi_len_sl' (by assumption) ?_ | refine retK_eq ?_)
  all_goals (refine iv ?_; unfold szLeft; first | (rw [if_neg (by omega)]; done) | (rw [if_pos (by omega)]; done))
theorem toIntS_new (W0 : World) (a : AV) (xs : List Int) (H : AH) (ha : SlR W0 H a xs) (hz : Ob.sz xs ≤ 1048576) : ACalls Tryz.prog W0 10 [a] H (fun v H' => NewS H H' v xs) := by
  refine acallw Tryz.func10 rfl (by kernel_rfl) (by kernel_rfl) fun hc hw => ?_
  rw [obsz_int] at hz
  have hx := mem_I ha
  repeat' (first | simp -implicitDefEqProofs only [go_sem] | refine abi_len_sl' (by assumption) ?_ | (with_reducible refine And.intro (by omega) ?_) | fail)
  refine acode_while (fun i : Nat => [(0, a), (3, .sl H.nxt 0 xs.length), (4, .v (.int .i64 i))]) (fun i H' => H'.wf ∧ i ≤ xs.length ∧ LayO H H' xs.length i xs) (fun i => xs.length - i) 0 ⟨hw.new _ _, by omega, LayO.start hw rfl rfl⟩ ?_
  rintro i H' ⟨hw', hi, hL⟩
  have hs := hL.sub
  obtain ⟨cs, T, hB, hcl, -, -⟩ := hL.blk
  have hcl' : cs.length = xs.length := by rw [hcl]; exact Nat.mul_one _
  repeat' (first | simp -implicitDefEqProofs only [go_sem] | (simp only [hB]) | refine acond_dec (fun _ => ?_) (fun _ => ?_) | refine abi_len_sl' (by assumption) ?_ | refine aixs_sln (by assumption) ?_ | (refine aK_sl (by assumption) (by omega) ?_; first | rintro _ ⟨rfl, _⟩ | (intro _ hx; obtain ⟨_, rfl, _, _⟩ := EvD.out hx) | (intro _ hx; obtain ⟨_, _, rfl, _, _, _⟩ := JobD.out hx) | rintro _ ⟨_, rfl, _⟩) | simp -implicitDefEqProofs (disch := omega) only [wrap_in, u8_small, Int.tmod_eq_emod_of_nonneg, Int.tdiv_eq_ediv_of_nonneg] | (with_reducible refine And.intro (by omega) ?_) | (with_reducible refine And.intro ?_ ?_))
  all_goals first
    | rfl
    | omega
    | (obtain rfl : i = xs.length := by omega
       exact retK_one (hL.done (by simp only [big]; omega)))
    | (have hlt : i < xs.length := by omega
       have h := LayO.put hw hw' hL (Sub.refl _) hlt hlt (c := [.v (.int .i64 xs[i])]) (S2 := []) ⟨rfl, rfl, hx _ (List.getElem_mem hlt)⟩ (Fresh.nil _) hB
       rw [show i * Ob.n Int = i from Nat.mul_one i] at h
       exact back (i + 1) ⟨hw'.set (Nat.lt_of_lt_of_le hL.lt (Nat.le_refl _)) _, by omega, h⟩ (by omega))
theorem eqIntS_ok (W0 : World) (a b : AV) (xs ys : List Int) (H : AH) (ha : SlR W0 H a xs) (hb : SlR W0 H b ys) : ACalls Tryz.prog W0 13 [a, b] H (fun v H' => v = .v (.bool (decide (xs = ys))) ∧ H' = H) := by
  refine acallw Tryz.func13 rfl (by kernel_rfl) (by kernel_rfl) fun hc hw => ?_
  have ha2 := ha.2.1
  have hb2 := hb.2.1
  simp only [big] at ha2 hb2
  repeat' (first | simp -implicitDefEqProofs only [go_sem] | refine acond_ndec (fun _ => ?_) (fun _ => ?_) | refine abi_len_sl' (by assumption) ?_ | refine retK_eq ?_)
  · rw [decide_eq_false (fun h => by subst h; exact absurd rfl (by assumption))]
  refine acode_while (fun i : Nat => [(0, a), (1, b), (5, .v (.int .i64 i))]) (fun i H' => H' = H ∧ i ≤ xs.length ∧ xs.take i = ys.take i) (fun i => xs.length - i) 0 ⟨rfl, by omega, by simp⟩ ?_
  rintro i _ ⟨rfl, hi, hE⟩
  have hll : xs.length = ys.length := by omega
  rcases Nat.lt_or_ge i xs.length with hlt | hge
  · have hlt2 : i < ys.length := by omega
    repeat' (first | simp -implicitDefEqProofs only [go_sem] | refine acond_decT (by omega) ?_ | refine acond_ndec (fun _ => ?_) (fun _ => ?_) | refine abi_len_sl' (by assumption) ?_ | refine aixs_sln (by assumption) ?_ | (refine aK_sl (by assumption) (by omega) ?_; first | rintro _ ⟨rfl, _⟩ | (intro _ hx; obtain ⟨_, rfl, _, _⟩ := EvD.out hx) | (intro _ hx; obtain ⟨_, _, rfl, _, _, _⟩ := JobD.out hx) | rintro _ ⟨_, rfl, _⟩) | simp -implicitDefEqProofs (disch := omega) only [wrap_in, u8_small, Int.tmod_eq_emod_of_nonneg, Int.tdiv_eq_ediv_of_nonneg] | ((with_reducible refine adraw_seq ?_ ?_ ?_); (· kernel_rfl); (· decide +kernel)) | refine retK_eq ?_)
    · rw [decide_eq_false (fun h => by subst h; exact absurd rfl (by assumption))]
    · exact back (i + 1) ⟨by omega, by rw [List.take_succ_eq_append_getElem hlt, List.take_succ_eq_append_getElem hlt2, hE]; congr 2⟩ (by omega)
  · repeat' (first | simp -implicitDefEqProofs only [go_sem] | refine acond_decF (by omega) ?_ | refine abi_len_sl' (by assumption) ?_ | refine retK_eq ?_)
    rw [List.take_of_length_le hge, List.take_of_length_le (by omega)] at hE
    rw [decide_eq_true hE]
end Go.Proofs.YtipfnhfcoolhaaaGreat.Aw
end
section
namespace Go.Proofs.YtipfnhfcoolhaaaGreat.Aw
open Go Go.RowKit
set_option maxRecDepth 100000
set_option maxHeartbeats 2000000
attribute [-go_sem] wr_eq
theorem szOp_ok (W0 : World) (cs : List AV) (x : OpD) (left : Int) (H : AH) (hx : Ob.rep W0 H cs x) (h0 : 0 ≤ left) (h1 : left ≤ 1048576) : ACalls Tryz.prog W0 237 [.agg cs, .v (.int .i64 left)] H (fun v H' => v = .v (.int .i64 (szLeft left (Ob.sz x))) ∧ H' = H) := by
  obtain ⟨rfl, f0, f1, f2, f3⟩ := hx
  rw [show Ob.sz x = x.key.size from rfl]
  refine acallw Tryz.func237 rfl (by kernel_rfl) (by kernel_rfl) fun hc hw => ?_
  simp only [big] at f1
  repeat' (first | simp -implicitDefEqProofs only [go_sem] | (simp -implicitDefEqProofs (disch := omega) only [wrap_in]) | refine acond_dec (fun _ => ?_) (fun _ => ?_) | refine retK_back (by assumption) ?_ | fail)
  all_goals (refine iv ?_; unfold szLeft; first | (rw [if_neg (by omega)]; done) | (rw [if_pos (by omega)]; done) | (rw [if_pos (by omega)]; omega))
theorem eqOp_ok (W0 : World) (cs ds : List AV) (x y : OpD) (H : AH) (hx : Ob.rep W0 H cs x) (hy : Ob.rep W0 H ds y) : ACalls Tryz.prog W0 235 [.agg cs, .agg ds] H (fun v H' => v = .v (.bool (decide (x = y))) ∧ H' = H) := by
  obtain ⟨rfl, f0, f1, f2, f3⟩ := hx
  obtain ⟨rfl, f0', f1', f2', f3'⟩ := hy
  refine acallw Tryz.func235 rfl (by kernel_rfl) (by kernel_rfl) fun hc hw => ?_
  repeat' (first | simp -implicitDefEqProofs only [go_sem] | refine acond_ndec (fun _ => ?_) (fun _ => ?_) | refine retK_back (by assumption) ?_ | fail)
  all_goals first | (rw [decide_eq_false (fun h => by subst h; exact absurd rfl (by assumption))]; done) | (rw [decide_eq_false (fun h => by subst h; exact ne_of_nbeq (by assumption))]; done) | (rw [decide_eq_true (OpD.ext_iff'.2 (by (repeat' (with_reducible refine And.intro ?_ ?_)) <;> first | assumption | exact eq_of_nbeq (by assumption)))]; done)
theorem toOp_new (W0 : World) (cs : List AV) (x : OpD) (H : AH) (hx : Ob.rep W0 H cs x) (hz : Ob.sz x ≤ 1048576) : ACalls Tryz.prog W0 241 [.agg cs] H (fun v H' => NewV H H' v x) := by
  have hz2 : x.key.size ≤ 1048576 := hz
  obtain ⟨rfl, f0, f1, f2, f3⟩ := hx
  refine acallw Tryz.func241 rfl (by kernel_rfl) (by kernel_rfl) fun hc hw => ?_
  repeat' (first | simp -implicitDefEqProofs only [go_sem] | (simp -implicitDefEqProofs only [set_set, wr_succ, wr_zero, wr_none, go_sem]))
  refine retK_one ?_
  exact ⟨by repeat (first | exact Sub.refl _ | assumption | refine Sub.new hc.1 ?_ _ _ | refine Sub.set hc.1 ?_ (by omega) _ | refine Sub.trans ?_ (by assumption)), [], _, rfl, ⟨rfl, rfl, f0, f1, f2, f3⟩, Fresh.nil _⟩
theorem szOpS_ok (W0 : World) (a : AV) (xs : List OpD) (left : Int) (H : AH) (ha : SlR W0 H a xs) (h0 : 0 ≤ left) (h1 : left ≤ 1048576) : ACalls Tryz.prog W0 226 [a, .v (.int .i64 left)] H (fun v H' => v = .v (.int .i64 (szLeft left (Ob.sz xs))) ∧ H' = H) := by
  refine acallw Tryz.func226 rfl (by kernel_rfl) (by kernel_rfl) fun hc hw => ?_
  have hb := ha.2.1
  simp only [big] at hb
  rw [show Ob.sz xs = xs.length + (xs.map Ob.sz).sum from rfl]
  repeat' (first | simp -implicitDefEqProofs only [go_sem] | (simp -implicitDefEqProofs (disch := omega) only [wrap_in]) | refine acond_dec (fun _ => ?_) (fun _ => ?_) | refine abi_len_sl' (by assumption) ?_ | refine retK_eq ?_)
  · refine iv ?_; unfold szLeft; rw [if_neg (by omega)]
  refine acode_while (fun i : Nat => [(0, a), (1, .v (.int .i64 (left - xs.length - (((xs.take i).map Ob.sz).sum : Nat)))), (5, .v (.int .i64 i))]) (fun i H' => H' = H ∧ i ≤ xs.length ∧ 0 ≤ left - xs.length - (((xs.take i).map Ob.sz).sum : Nat)) (fun i => xs.length - i) 0 ⟨rfl, by omega, by simp; omega⟩ ?_ (by simp only [frOk, go_sem]; simp)
  rintro i _ ⟨rfl, hi, hl0⟩
  rcases Nat.lt_or_ge i xs.length with hlt | hge
  · have hsum : ((xs.take (i + 1)).map Ob.sz).sum = ((xs.take i).map Ob.sz).sum + Ob.sz xs[i] := by
      rw [List.take_succ_eq_append_getElem hlt, List.map_append, List.sum_append]; simp
    have hle : ((xs.take (i + 1)).map Ob.sz).sum ≤ (xs.map Ob.sz).sum := sum_take_le _ xs _
    repeat' (first | simp -implicitDefEqProofs only [go_sem] | (refine aK_slw (by assumption) hlt ?_; intro cs hcs) | (refine ACallK.szk (szOp_ok _ _ xs[i] _ _ hcs (by omega) (by omega)) (fun _ => ?_) (fun _ => ?_)) | refine acond_decF (by omega) ?_ | refine acond_decT (by omega) ?_ | refine abi_len_sl' (by assumption) ?_ | refine aixs_sln (by assumption) ?_ | simp -implicitDefEqProofs (disch := omega) only [wrap_in, u8_small, Int.tmod_eq_emod_of_nonneg, Int.tdiv_eq_ediv_of_nonneg] | refine retK_eq ?_)
    · refine iv ?_; unfold szLeft; rw [if_neg (by omega)]
    · exact back (i + 1) ⟨by omega, by omega⟩ (by omega) (by simp only [frOk, go_sem]; exact ⟨iv (by omega), iv (by omega)⟩)
  · repeat' (first | simp -implicitDefEqProofs only [go_sem] | refine acond_decF (by omega) ?_ | refine abi_len_sl' (by assumption) ?_ | refine retK_eq ?_)
    rw [List.take_of_length_le hge] at hl0
    refine iv ?_; unfold szLeft; rw [List.take_of_length_le hge, if_pos (by omega)]; omega
theorem toOpS_new (W0 : World) (a : AV) (xs : List OpD) (H : AH) (ha : SlR W0 H a xs) (hz : Ob.sz xs ≤ 1048576) : ACalls Tryz.prog W0 233 [a] H (fun v H' => NewS H H' v xs) := by
  refine acallw Tryz.func233 rfl (by kernel_rfl) (by kernel_rfl) fun hc hw => ?_
  have hlen : xs.length ≤ 1048576 := (by have h : Ob.sz xs = xs.length + (xs.map Ob.sz).sum := rfl; omega)
  repeat' (first | simp -implicitDefEqProofs only [go_sem] | refine abi_len_sl' (by assumption) ?_ | (with_reducible refine And.intro (by omega) ?_) | fail)
  refine acode_while (fun i : Nat => [(0, a), (3, .sl H.nxt 0 xs.length), (4, .v (.int .i64 i))]) (fun i H' => H'.wf ∧ i ≤ xs.length ∧ LayO H H' xs.length i xs) (fun i => xs.length - i) 0 ⟨hw.new _ _, by omega, LayO.start hw rfl rfl⟩ ?_
  rintro i H' ⟨hw', hi, hL⟩
  have hs := hL.sub
  rcases Nat.lt_or_ge i xs.length with hlt | hge
  · repeat' (first | simp -implicitDefEqProofs only [go_sem] | (refine aK_slw (by assumption) hlt ?_; intro cs hcs) | refine acond_decT (by omega) ?_ | refine abi_len_sl' (by assumption) ?_ | refine aixs_sln (by assumption) ?_ | fail)
    refine ACallK.of (toOp_new _ _ xs[i] _ (Ob.sub' hcs) (Nat.le_trans (sz_get_le xs i hlt) hz)).cl ?_
    rintro _ H2 ⟨⟨s2, S2, c, rfl, w2, F2⟩, c2⟩
    have hL2 := hL.more s2
    obtain ⟨ds, T, hB, hcl, -, -⟩ := hL2.blk
    have hlc : c.length = 4 := Ob.len (Own.rep (W0 := W0) w2)
    have hlf : c.all leafA = true := Ob.leaf (Own.rep (W0 := W0) w2)
    have hlt2 := hL2.lt
    have hcl' : ds.length = xs.length * 4 := hcl
    have h := LayO.put hw hw' hL s2 hlt hlt w2 F2 hB
    simp only at h
    repeat' (first | simp -implicitDefEqProofs only [go_sem] | (simp only [hB, Int.toNat_natCast]) | (with_reducible refine And.intro hlc ?_) | (with_reducible refine And.intro hlf ?_) | (with_reducible refine And.intro rfl ?_) | simp -implicitDefEqProofs (disch := omega) only [wrap_in, u8_small, Int.tmod_eq_emod_of_nonneg, Int.tdiv_eq_ediv_of_nonneg] | (with_reducible refine And.intro (by omega) ?_) | fail)
    exact back (i + 1) ⟨c2.1.set hlt2 _, by omega, h⟩ (by omega)
  · repeat' (first | simp -implicitDefEqProofs only [go_sem] | refine acond_decF (by omega) ?_ | refine abi_len_sl' (by assumption) ?_ | fail)
    obtain rfl : i = xs.length := by omega
    exact retK_one (hL.done (by simp only [big]; omega))
theorem eqOpS_ok (W0 : World) (a b : AV) (xs ys : List OpD) (H : AH) (ha : SlR W0 H a xs) (hb : SlR W0 H b ys) : ACalls Tryz.prog W0 236 [a, b] H (fun v H' => v = .v (.bool (decide (xs = ys))) ∧ H' = H) := by
  refine acallw Tryz.func236 rfl (by kernel_rfl) (by kernel_rfl) fun hc hw => ?_
  have ha2 := ha.2.1
  have hb2 := hb.2.1
  simp only [big] at ha2 hb2
  repeat' (first | simp -implicitDefEqProofs only [go_sem] | refine acond_ndec (fun _ => ?_) (fun _ => ?_) | refine abi_len_sl' (by assumption) ?_ | refine retK_eq ?_)
  · rw [decide_eq_false (fun h => by subst h; exact absurd rfl (by assumption))]
  refine acode_while (fun i : Nat => [(0, a), (1, b), (5, .v (.int .i64 i))]) (fun i H' => H' = H ∧ i ≤ xs.length ∧ xs.take i = ys.take i) (fun i => xs.length - i) 0 ⟨rfl, by omega, by simp⟩ ?_
  rintro i _ ⟨rfl, hi, hE⟩
  have hll : xs.length = ys.length := by omega
  rcases Nat.lt_or_ge i xs.length with hlt | hge
  · have hlt2 : i < ys.length := by omega
    repeat' (first | simp -implicitDefEqProofs only [go_sem] | (refine aK_slw (xs := xs) (by assumption) hlt ?_; intro cs hcs) | (refine aK_slw (xs := ys) (by assumption) hlt2 ?_; intro ds hds) | refine ACallK.eq (eqOp_ok _ _ _ xs[i] ys[i] _ hcs hds) ?_ | refine acond_decT (by omega) ?_ | refine acond_ndec (fun _ => ?_) (fun _ => ?_) | refine abi_len_sl' (by assumption) ?_ | refine aixs_sln (by assumption) ?_ | simp -implicitDefEqProofs (disch := omega) only [wrap_in, u8_small, Int.tmod_eq_emod_of_nonneg, Int.tdiv_eq_ediv_of_nonneg] | ((with_reducible refine adraw_seq ?_ ?_ ?_); (· kernel_rfl); (· decide +kernel)) | refine retK_eq ?_)
    · rw [decide_eq_false (fun h => by subst h; exact absurd rfl (by assumption))]
    · exact back (i + 1) ⟨by omega, by rw [List.take_succ_eq_append_getElem hlt, List.take_succ_eq_append_getElem hlt2, hE]; congr 2⟩ (by omega)
  · repeat' (first | simp -implicitDefEqProofs only [go_sem] | refine acond_decF (by omega) ?_ | refine abi_len_sl' (by assumption) ?_ | refine retK_eq ?_)
    rw [List.take_of_length_le hge, List.take_of_length_le (by omega)] at hE
    rw [decide_eq_true hE]
end Go.Proofs.YtipfnhfcoolhaaaGreat.Aw
end
section
namespace Go.Proofs.YtipfnhfcoolhaaaGreat.Aw
open Go Go.RowKit
set_option maxRecDepth 100000
set_option maxHeartbeats 2000000
attribute [-go_sem] wr_eq
theorem szJob_ok (W0 : World) (cs : List AV) (x : JobD) (left : Int) (H : AH) (hx : Ob.rep W0 H cs x) (h0 : 0 ≤ left) (h1 : left ≤ 1048576) : ACalls Tryz.prog W0 160 [.agg cs, .v (.int .i64 left)] H (fun v H' => v = .v (.int .i64 (szLeft left (Ob.sz x))) ∧ H' = H) := by
  obtain ⟨v_keys, v_raw, rfl, f0, f1, f2, f3, f4, f5, f6, f7, f8, f9, f10, f11, f12, f13, f14, f15, f16⟩ := hx
  rw [show Ob.sz x = Ob.sz x.op + Ob.sz x.keys + Ob.sz x.raw from rfl]
  refine acallw Tryz.func160 rfl (by kernel_rfl) (by kernel_rfl) fun hc hw => ?_
  repeat' (first | simp -implicitDefEqProofs only [go_sem] | (refine ACallK.szk (szOp_ok _ _ x.op _ _ ⟨rfl, f0, f1, f2, f3⟩ (by omega) (by omega)) (fun _ => ?_) (fun _ => ?_)) | (refine ACallK.szk (szIntS_ok _ _ x.keys _ _ (SlR.sub' f15) (by omega) (by omega)) (fun _ => ?_) (fun _ => ?_)) | (refine ACallK.szk (szIntS_ok _ _ x.raw _ _ (SlR.sub' f16) (by omega) (by omega)) (fun _ => ?_) (fun _ => ?_)) | refine acond_decF (by omega) ?_ | refine retK_back (by assumption) ?_ | fail)
  all_goals (refine iv ?_; unfold szLeft; first | (rw [if_neg (by omega)]; done) | (rw [if_pos (by omega)]; done) | (rw [if_pos (by omega)]; omega))
theorem eqJob_ok (W0 : World) (cs ds : List AV) (x y : JobD) (H : AH) (hx : Ob.rep W0 H cs x) (hy : Ob.rep W0 H ds y) : ACalls Tryz.prog W0 155 [.agg cs, .agg ds] H (fun v H' => v = .v (.bool (decide (x = y))) ∧ H' = H) := by
  obtain ⟨v_keys, v_raw, rfl, f0, f1, f2, f3, f4, f5, f6, f7, f8, f9, f10, f11, f12, f13, f14, f15, f16⟩ := hx
  obtain ⟨v_keys', v_raw', rfl, f0', f1', f2', f3', f4', f5', f6', f7', f8', f9', f10', f11', f12', f13', f14', f15', f16'⟩ := hy
  refine acallw Tryz.func155 rfl (by kernel_rfl) (by kernel_rfl) fun hc hw => ?_
  repeat' (first | simp -implicitDefEqProofs only [go_sem] | refine acond_ndec (fun _ => ?_) (fun _ => ?_) | refine ACallK.eq (eqOp_ok _ _ _ x.op y.op _ ⟨rfl, f0, f1, f2, f3⟩ ⟨rfl, f0', f1', f2', f3'⟩) ?_ | refine ACallK.eq (eqIntS_ok _ _ _ x.keys y.keys _ (SlR.sub' f15) (SlR.sub' f15')) ?_ | refine ACallK.eq (eqIntS_ok _ _ _ x.raw y.raw _ (SlR.sub' f16) (SlR.sub' f16')) ?_ | refine retK_back (by assumption) ?_ | fail)
  all_goals first | (rw [decide_eq_false (fun h => by subst h; exact absurd rfl (by assumption))]; done) | (rw [decide_eq_false (fun h => by subst h; exact ne_of_nbeq (by assumption))]; done) | (rw [decide_eq_true (JobD.ext_iff'.2 (by (repeat' (with_reducible refine And.intro ?_ ?_)) <;> first | assumption | exact eq_of_nbeq (by assumption)))]; done)
theorem toJob_new (W0 : World) (cs : List AV) (x : JobD) (H : AH) (hx : Ob.rep W0 H cs x) (hz : Ob.sz x ≤ 1048576) : ACalls Tryz.prog W0 164 [.agg cs] H (fun v H' => NewV H H' v x) := by
  have hz2 : Ob.sz x.op + Ob.sz x.keys + Ob.sz x.raw ≤ 1048576 := hz
  obtain ⟨v_keys, v_raw, rfl, f0, f1, f2, f3, f4, f5, f6, f7, f8, f9, f10, f11, f12, f13, f14, f15, f16⟩ := hx
  refine acallw Tryz.func164 rfl (by kernel_rfl) (by kernel_rfl) fun hc hw => ?_
  repeat' (first | simp -implicitDefEqProofs only [go_sem] | (simp -implicitDefEqProofs only [set_set, wr_succ, wr_zero, wr_none, go_sem]))
  refine ACallK.of (toOp_new W0 _ x.op _ ⟨rfl, f0, f1, f2, f3⟩ (by omega)).cl ?_
  rintro _ H1 ⟨⟨s1, S1, _, rfl, ⟨rfl, rfl, -⟩, -⟩, c1⟩
  have n1 := s1.1; simp only [go_sem] at n1
  have a1 := s1.2 H.nxt _ (by simp only [go_sem]; rfl)
  have o1 := s1.2 (H.nxt + 1) _ (by simp only [go_sem]; rfl)
  have l1 := s1.2 (H.nxt + 2) _ (by simp only [go_sem]; rfl)
  repeat' (first | simp -implicitDefEqProofs only [go_sem] | (simp -implicitDefEqProofs only [a1, o1, l1, set_set, wr_succ, wr_zero, wr_none, go_sem]))
  refine ACallK.of (toIntS_new W0 v_keys x.keys _ (f15.sub (by repeat (first | exact Sub.refl _ | assumption | refine Sub.new hc.1 ?_ _ _ | refine Sub.set hc.1 ?_ (by omega) _ | refine Sub.trans ?_ (by assumption)))) (by first | omega | (rw [obsz_int] at hz2; omega))).cl ?_
  rintro u2 H2 ⟨⟨s2, S2, w2, F2⟩, c2⟩
  have q2 : ∀ b ∈ S2, b < H2.nxt := fun b hb => c2.1.lt' (w2.isin b hb)
  have n2 := s2.1; simp only [go_sem] at n2
  have a2 := s2.2 H.nxt _ (by simp only [go_sem, a1]; rfl)
  have o2 := s2.2 (H.nxt + 1) _ (by simp only [go_sem, o1]; rfl)
  have l2 := s2.2 (H.nxt + 2) _ (by simp only [go_sem]; rfl)
  repeat' (first | simp -implicitDefEqProofs only [go_sem] | (simp -implicitDefEqProofs only [a2, o2, l2, w2.one, w2.leaf, set_set, wr_succ, wr_zero, wr_none, go_sem]))
  refine ACallK.of (toIntS_new W0 v_raw x.raw _ (f16.sub (by repeat (first | exact Sub.refl _ | assumption | refine Sub.new hc.1 ?_ _ _ | refine Sub.set hc.1 ?_ (by omega) _ | refine Sub.trans ?_ (by assumption)))) (by first | omega | (rw [obsz_int] at hz2; omega))).cl ?_
  rintro u3 H3 ⟨⟨s3, S3, w3, F3⟩, c3⟩
  have q3 : ∀ b ∈ S3, b < H3.nxt := fun b hb => c3.1.lt' (w3.isin b hb)
  have n3 := s3.1; simp only [go_sem] at n3
  have a3 := s3.2 H.nxt _ (by simp only [go_sem, a2]; rfl)
  have o3 := s3.2 (H.nxt + 1) _ (by simp only [go_sem, o2]; rfl)
  have l3 := s3.2 (H.nxt + 2) _ (by simp only [go_sem]; rfl)
  have w2 := w2.step (l := H.nxt + 2) (fun b hb => by have := F2.2 b hb; simp only [go_sem] at this; omega) s3
  repeat' (first | simp -implicitDefEqProofs only [go_sem] | (simp -implicitDefEqProofs only [a3, o3, l3, w2.one, w2.leaf, w3.one, w3.leaf, set_set, wr_succ, wr_zero, wr_none, go_sem]))
  refine retK_one ?_
  refine ⟨by repeat (first | exact Sub.refl _ | assumption | refine Sub.new hc.1 ?_ _ _ | refine Sub.set hc.1 ?_ (by omega) _ | refine Sub.trans ?_ (by assumption)), _, _, rfl, ⟨u2, u3, S2, S3, rfl, rfl, f0, f1, f2, f3, f4, f5, f6, f7, f8, f9, f10, f11, f12, f13, f14, w2.chg2 (fun b hb => by have := F2.2 b hb; simp only [go_sem] at this; omega), w3.chg2 (fun b hb => by have := F3.2 b hb; simp only [go_sem] at this; omega)⟩, ?_⟩
  exact ((F2.le (Nat.le_refl _)).append (F3.le (Nat.le_refl _)) (fun b hb => Nat.lt_of_lt_of_le (q2 b hb) (by simp only [go_sem] <;> omega)) (by simp only [go_sem] <;> omega)).le (by simp only [go_sem]; omega)
theorem szJobS_ok (W0 : World) (a : AV) (xs : List JobD) (left : Int) (H : AH) (ha : SlR W0 H a xs) (h0 : 0 ≤ left) (h1 : left ≤ 1048576) : ACalls Tryz.prog W0 79 [a, .v (.int .i64 left)] H (fun v H' => v = .v (.int .i64 (szLeft left (Ob.sz xs))) ∧ H' = H) := by
  refine acallw Tryz.func79 rfl (by kernel_rfl) (by kernel_rfl) fun hc hw => ?_
  have hb := ha.2.1
  simp only [big] at hb
  rw [show Ob.sz xs = xs.length + (xs.map Ob.sz).sum from rfl]
  repeat' (first | simp -implicitDefEqProofs only [go_sem] | (simp -implicitDefEqProofs (disch := omega) only [wrap_in]) | refine acond_dec (fun _ => ?_) (fun _ => ?_) | refine abi_len_sl' (by assumption) ?_ | refine retK_eq ?_)
  · refine iv ?_; unfold szLeft; rw [if_neg (by omega)]
  refine acode_while (fun i : Nat => [(0, a), (1, .v (.int .i64 (left - xs.length - (((xs.take i).map Ob.sz).sum : Nat)))), (5, .v (.int .i64 i))]) (fun i H' => H' = H ∧ i ≤ xs.length ∧ 0 ≤ left - xs.length - (((xs.take i).map Ob.sz).sum : Nat)) (fun i => xs.length - i) 0 ⟨rfl, by omega, by simp; omega⟩ ?_ (by simp only [frOk, go_sem]; simp)
  rintro i _ ⟨rfl, hi, hl0⟩
  rcases Nat.lt_or_ge i xs.length with hlt | hge
  · have hsum : ((xs.take (i + 1)).map Ob.sz).sum = ((xs.take i).map Ob.sz).sum + Ob.sz xs[i] := by
      rw [List.take_succ_eq_append_getElem hlt, List.map_append, List.sum_append]; simp
    have hle : ((xs.take (i + 1)).map Ob.sz).sum ≤ (xs.map Ob.sz).sum := sum_take_le _ xs _
    repeat' (first | simp -implicitDefEqProofs only [go_sem] | (refine aK_slw (by assumption) hlt ?_; intro cs hcs) | (refine ACallK.szk (szJob_ok _ _ xs[i] _ _ hcs (by omega) (by omega)) (fun _ => ?_) (fun _ => ?_)) | refine acond_decF (by omega) ?_ | refine acond_decT (by omega) ?_ | refine abi_len_sl' (by assumption) ?_ | refine aixs_sln (by assumption) ?_ | simp -implicitDefEqProofs (disch := omega) only [wrap_in, u8_small, Int.tmod_eq_emod_of_nonneg, Int.tdiv_eq_ediv_of_nonneg] | refine retK_eq ?_)
    · refine iv ?_; unfold szLeft; rw [if_neg (by omega)]
    · exact back (i + 1) ⟨by omega, by omega⟩ (by omega) (by simp only [frOk, go_sem]; exact ⟨iv (by omega), iv (by omega)⟩)
  · repeat' (first | simp -implicitDefEqProofs only [go_sem] | refine acond_decF (by omega) ?_ | refine abi_len_sl' (by assumption) ?_ | refine retK_eq ?_)
    rw [List.take_of_length_le hge] at hl0
    refine iv ?_; unfold szLeft; rw [List.take_of_length_le hge, if_pos (by omega)]; omega
theorem toJobS_new (W0 : World) (a : AV) (xs : List JobD) (H : AH) (ha : SlR W0 H a xs) (hz : Ob.sz xs ≤ 1048576) : ACalls Tryz.prog W0 82 [a] H (fun v H' => NewS H H' v xs) := by
  refine acallw Tryz.func82 rfl (by kernel_rfl) (by kernel_rfl) fun hc hw => ?_
  have hlen : xs.length ≤ 1048576 := (by have h : Ob.sz xs = xs.length + (xs.map Ob.sz).sum := rfl; omega)
  repeat' (first | simp -implicitDefEqProofs only [go_sem] | refine abi_len_sl' (by assumption) ?_ | (with_reducible refine And.intro (by omega) ?_) | fail)
  refine acode_while (fun i : Nat => [(0, a), (3, .sl H.nxt 0 xs.length), (4, .v (.int .i64 i))]) (fun i H' => H'.wf ∧ i ≤ xs.length ∧ LayO H H' xs.length i xs) (fun i => xs.length - i) 0 ⟨hw.new _ _, by omega, LayO.start hw rfl rfl⟩ ?_
  rintro i H' ⟨hw', hi, hL⟩
  have hs := hL.sub
  rcases Nat.lt_or_ge i xs.length with hlt | hge
  · repeat' (first | simp -implicitDefEqProofs only [go_sem] | (refine aK_slw (by assumption) hlt ?_; intro cs hcs) | refine acond_decT (by omega) ?_ | refine abi_len_sl' (by assumption) ?_ | refine aixs_sln (by assumption) ?_ | fail)
    refine ACallK.of (toJob_new _ _ xs[i] _ (Ob.sub' hcs) (Nat.le_trans (sz_get_le xs i hlt) hz)).cl ?_
    rintro _ H2 ⟨⟨s2, S2, c, rfl, w2, F2⟩, c2⟩
    have hL2 := hL.more s2
    obtain ⟨ds, T, hB, hcl, -, -⟩ := hL2.blk
    have hlc : c.length = 18 := Ob.len (Own.rep (W0 := W0) w2)
    have hlf : c.all leafA = true := Ob.leaf (Own.rep (W0 := W0) w2)
    have hlt2 := hL2.lt
    have hcl' : ds.length = xs.length * 18 := hcl
    have h := LayO.put hw hw' hL s2 hlt hlt w2 F2 hB
    simp only at h
    repeat' (first | simp -implicitDefEqProofs only [go_sem] | (simp only [hB, Int.toNat_natCast]) | (with_reducible refine And.intro hlc ?_) | (with_reducible refine And.intro hlf ?_) | (with_reducible refine And.intro rfl ?_) | simp -implicitDefEqProofs (disch := omega) only [wrap_in, u8_small, Int.tmod_eq_emod_of_nonneg, Int.tdiv_eq_ediv_of_nonneg] | (with_reducible refine And.intro (by omega) ?_) | fail)
    exact back (i + 1) ⟨c2.1.set hlt2 _, by omega, h⟩ (by omega)
  · repeat' (first | simp -implicitDefEqProofs only [go_sem] | refine acond_decF (by omega) ?_ | refine abi_len_sl' (by assumption) ?_ | fail)
    obtain rfl : i = xs.length := by omega
    exact retK_one (hL.done (by simp only [big]; omega))
theorem eqJobS_ok (W0 : World) (a b : AV) (xs ys : List JobD) (H : AH) (ha : SlR W0 H a xs) (hb : SlR W0 H b ys) : ACalls Tryz.prog W0 69 [a, b] H (fun v H' => v = .v (.bool (decide (xs = ys))) ∧ H' = H) := by
  refine acallw Tryz.func69 rfl (by kernel_rfl) (by kernel_rfl) fun hc hw => ?_
  have ha2 := ha.2.1
  have hb2 := hb.2.1
  simp only [big] at ha2 hb2
  repeat' (first | simp -implicitDefEqProofs only [go_sem] | refine acond_ndec (fun _ => ?_) (fun _ => ?_) | refine abi_len_sl' (by assumption) ?_ | refine retK_eq ?_)
  · rw [decide_eq_false (fun h => by subst h; exact absurd rfl (by assumption))]
  refine acode_while (fun i : Nat => [(0, a), (1, b), (5, .v (.int .i64 i))]) (fun i H' => H' = H ∧ i ≤ xs.length ∧ xs.take i = ys.take i) (fun i => xs.length - i) 0 ⟨rfl, by omega, by simp⟩ ?_
  rintro i _ ⟨rfl, hi, hE⟩
  have hll : xs.length = ys.length := by omega
  rcases Nat.lt_or_ge i xs.length with hlt | hge
  · have hlt2 : i < ys.length := by omega
    repeat' (first | simp -implicitDefEqProofs only [go_sem] | (refine aK_slw (xs := xs) (by assumption) hlt ?_; intro cs hcs) | (refine aK_slw (xs := ys) (by assumption) hlt2 ?_; intro ds hds) | refine ACallK.eq (eqJob_ok _ _ _ xs[i] ys[i] _ hcs hds) ?_ | refine acond_decT (by omega) ?_ | refine acond_ndec (fun _ => ?_) (fun _ => ?_) | refine abi_len_sl' (by assumption) ?_ | refine aixs_sln (by assumption) ?_ | simp -implicitDefEqProofs (disch := omega) only [wrap_in, u8_small, Int.tmod_eq_emod_of_nonneg, Int.tdiv_eq_ediv_of_nonneg] | ((with_reducible refine adraw_seq ?_ ?_ ?_); (· kernel_rfl); (· decide +kernel)) | refine retK_eq ?_)
    · rw [decide_eq_false (fun h => by subst h; exact absurd rfl (by assumption))]
    · exact back (i + 1) ⟨by omega, by rw [List.take_succ_eq_append_getElem hlt, List.take_succ_eq_append_getElem hlt2, hE]; congr 2⟩ (by omega)
  · repeat' (first | simp -implicitDefEqProofs only [go_sem] | refine acond_decF (by omega) ?_ | refine abi_len_sl' (by assumption) ?_ | refine retK_eq ?_)
    rw [List.take_of_length_le hge, List.take_of_length_le (by omega)] at hE
    rw [decide_eq_true hE]
end Go.Proofs.YtipfnhfcoolhaaaGreat.Aw
end
section
namespace Go.Proofs.YtipfnhfcoolhaaaGreat.Aw
open Go Go.RowKit
set_option maxRecDepth 100000
set_option maxHeartbeats 2000000
attribute [-go_sem] wr_eq
theorem szQueue_ok (W0 : World) (cs : List AV) (x : QueueD) (left : Int) (H : AH) (hx : Ob.rep W0 H cs x) (h0 : 0 ≤ left) (h1 : left ≤ 1048576) : ACalls Tryz.prog W0 141 [.agg cs, .v (.int .i64 left)] H (fun v H' => v = .v (.int .i64 (szLeft left (Ob.sz x))) ∧ H' = H) := by
  obtain ⟨v_ops, rfl, f0⟩ := hx
  rw [show Ob.sz x = Ob.sz x.ops from rfl]
  refine acallw Tryz.func141 rfl (by kernel_rfl) (by kernel_rfl) fun hc hw => ?_
  repeat' (first | simp -implicitDefEqProofs only [go_sem] | (refine ACallK.szk (szOpS_ok _ _ x.ops _ _ (SlR.sub' f0) (by omega) (by omega)) (fun _ => ?_) (fun _ => ?_)) | refine acond_decF (by omega) ?_ | refine retK_back (by assumption) ?_ | fail)
  all_goals (refine iv ?_; unfold szLeft; first | (rw [if_neg (by omega)]; done) | (rw [if_pos (by omega)]; done) | (rw [if_pos (by omega)]; omega))
theorem eqQueue_ok (W0 : World) (cs ds : List AV) (x y : QueueD) (H : AH) (hx : Ob.rep W0 H cs x) (hy : Ob.rep W0 H ds y) : ACalls Tryz.prog W0 156 [.agg cs, .agg ds] H (fun v H' => v = .v (.bool (decide (x = y))) ∧ H' = H) := by
  obtain ⟨v_ops, rfl, f0⟩ := hx
  obtain ⟨v_ops', rfl, f0'⟩ := hy
  refine acallw Tryz.func156 rfl (by kernel_rfl) (by kernel_rfl) fun hc hw => ?_
  repeat' (first | simp -implicitDefEqProofs only [go_sem] | refine acond_ndec (fun _ => ?_) (fun _ => ?_) | refine ACallK.eq (eqOpS_ok _ _ _ x.ops y.ops _ (SlR.sub' f0) (SlR.sub' f0')) ?_ | refine retK_back (by assumption) ?_ | fail)
  all_goals first | (rw [decide_eq_false (fun h => by subst h; exact absurd rfl (by assumption))]; done) | (rw [decide_eq_false (fun h => by subst h; exact ne_of_nbeq (by assumption))]; done) | (rw [decide_eq_true (QueueD.ext_iff'.2 (by (repeat' (with_reducible refine And.intro ?_ ?_)) <;> first | assumption | exact eq_of_nbeq (by assumption)))]; done)
theorem toQueue_new (W0 : World) (cs : List AV) (x : QueueD) (H : AH) (hx : Ob.rep W0 H cs x) (hz : Ob.sz x ≤ 1048576) : ACalls Tryz.prog W0 152 [.agg cs] H (fun v H' => NewV H H' v x) := by
  have hz2 : Ob.sz x.ops ≤ 1048576 := hz
  obtain ⟨v_ops, rfl, f0⟩ := hx
  refine acallw Tryz.func152 rfl (by kernel_rfl) (by kernel_rfl) fun hc hw => ?_
  repeat' (first | simp -implicitDefEqProofs only [go_sem])
  refine ACallK.of (toOpS_new W0 v_ops x.ops _ (f0.sub (by repeat (first | exact Sub.refl _ | assumption | refine Sub.new hc.1 ?_ _ _ | refine Sub.set hc.1 ?_ (by omega) _ | refine Sub.trans ?_ (by assumption)))) (by first | omega | (rw [obsz_int] at hz2; omega))).cl ?_
  rintro u1 H1 ⟨⟨s1, S1, w1, F1⟩, c1⟩
  have q1 : ∀ b ∈ S1, b < H1.nxt := fun b hb => c1.1.lt' (w1.isin b hb)
  have n1 := s1.1; simp only [go_sem] at n1
  have a1 := s1.2 H.nxt _ (by simp only [go_sem]; rfl)
  have o1 := s1.2 (H.nxt + 1) _ (by simp only [go_sem]; rfl)
  have l1 := s1.2 (H.nxt + 2) _ (by simp only [go_sem]; rfl)
  repeat' (first | simp -implicitDefEqProofs only [go_sem] | (simp -implicitDefEqProofs only [a1, o1, l1, w1.one, w1.leaf, set_set, wr_succ, wr_zero, wr_none, go_sem]))
  refine retK_one ?_
  refine ⟨by repeat (first | exact Sub.refl _ | assumption | refine Sub.new hc.1 ?_ _ _ | refine Sub.set hc.1 ?_ (by omega) _ | refine Sub.trans ?_ (by assumption)), _, _, rfl, ⟨u1, S1, rfl, rfl, w1.chg2 (fun b hb => by have := F1.2 b hb; simp only [go_sem] at this; omega)⟩, ?_⟩
  exact F1.le (by simp only [go_sem]; omega)
theorem szQueueS_ok (W0 : World) (a : AV) (xs : List QueueD) (left : Int) (H : AH) (ha : SlR W0 H a xs) (h0 : 0 ≤ left) (h1 : left ≤ 1048576) : ACalls Tryz.prog W0 61 [a, .v (.int .i64 left)] H (fun v H' => v = .v (.int .i64 (szLeft left (Ob.sz xs))) ∧ H' = H) := by
  refine acallw Tryz.func61 rfl (by kernel_rfl) (by kernel_rfl) fun hc hw => ?_
  have hb := ha.2.1
  simp only [big] at hb
  rw [show Ob.sz xs = xs.length + (xs.map Ob.sz).sum from rfl]
  repeat' (first | simp -implicitDefEqProofs only [go_sem] | (simp -implicitDefEqProofs (disch := omega) only [wrap_in]) | refine acond_dec (fun _ => ?_) (fun _ => ?_) | refine abi_len_sl' (by assumption) ?_ | refine retK_eq ?_)
  · refine iv ?_; unfold szLeft; rw [if_neg (by omega)]
  refine acode_while (fun i : Nat => [(0, a), (1, .v (.int .i64 (left - xs.length - (((xs.take i).map Ob.sz).sum : Nat)))), (5, .v (.int .i64 i))]) (fun i H' => H' = H ∧ i ≤ xs.length ∧ 0 ≤ left - xs.length - (((xs.take i).map Ob.sz).sum : Nat)) (fun i => xs.length - i) 0 ⟨rfl, by omega, by simp; omega⟩ ?_ (by simp only [frOk, go_sem]; simp)
  rintro i _ ⟨rfl, hi, hl0⟩
  rcases Nat.lt_or_ge i xs.length with hlt | hge
  · have hsum : ((xs.take (i + 1)).map Ob.sz).sum = ((xs.take i).map Ob.sz).sum + Ob.sz xs[i] := by
      rw [List.take_succ_eq_append_getElem hlt, List.map_append, List.sum_append]; simp
    have hle : ((xs.take (i + 1)).map Ob.sz).sum ≤ (xs.map Ob.sz).sum := sum_take_le _ xs _
    repeat' (first | simp -implicitDefEqProofs only [go_sem] | (refine aK_slw (by assumption) hlt ?_; intro cs hcs) | (refine ACallK.szk (szQueue_ok _ _ xs[i] _ _ hcs (by omega) (by omega)) (fun _ => ?_) (fun _ => ?_)) | refine acond_decF (by omega) ?_ | refine acond_decT (by omega) ?_ | refine abi_len_sl' (by assumption) ?_ | refine aixs_sln (by assumption) ?_ | simp -implicitDefEqProofs (disch := omega) only [wrap_in, u8_small, Int.tmod_eq_emod_of_nonneg, Int.tdiv_eq_ediv_of_nonneg] | refine retK_eq ?_)
    · refine iv ?_; unfold szLeft; rw [if_neg (by omega)]
    · exact back (i + 1) ⟨by omega, by omega⟩ (by omega) (by simp only [frOk, go_sem]; exact ⟨iv (by omega), iv (by omega)⟩)
  · repeat' (first | simp -implicitDefEqProofs only [go_sem] | refine acond_decF (by omega) ?_ | refine abi_len_sl' (by assumption) ?_ | refine retK_eq ?_)
    rw [List.take_of_length_le hge] at hl0
    refine iv ?_; unfold szLeft; rw [List.take_of_length_le hge, if_pos (by omega)]; omega
theorem toQueueS_new (W0 : World) (a : AV) (xs : List QueueD) (H : AH) (ha : SlR W0 H a xs) (hz : Ob.sz xs ≤ 1048576) : ACalls Tryz.prog W0 67 [a] H (fun v H' => NewS H H' v xs) := by
  refine acallw Tryz.func67 rfl (by kernel_rfl) (by kernel_rfl) fun hc hw => ?_
  have hlen : xs.length ≤ 1048576 := (by have h : Ob.sz xs = xs.length + (xs.map Ob.sz).sum := rfl; omega)
  repeat' (first | simp -implicitDefEqProofs only [go_sem] | refine abi_len_sl' (by assumption) ?_ | (with_reducible refine And.intro (by omega) ?_) | fail)
  refine acode_while (fun i : Nat => [(0, a), (3, .sl H.nxt 0 xs.length), (4, .v (.int .i64 i))]) (fun i H' => H'.wf ∧ i ≤ xs.length ∧ LayO H H' xs.length i xs) (fun i => xs.length - i) 0 ⟨hw.new _ _, by omega, LayO.start hw rfl rfl⟩ ?_
  rintro i H' ⟨hw', hi, hL⟩
  have hs := hL.sub
  rcases Nat.lt_or_ge i xs.length with hlt | hge
  · repeat' (first | simp -implicitDefEqProofs only [go_sem] | (refine aK_slw (by assumption) hlt ?_; intro cs hcs) | refine acond_decT (by omega) ?_ | refine abi_len_sl' (by assumption) ?_ | refine aixs_sln (by assumption) ?_ | fail)
    refine ACallK.of (toQueue_new _ _ xs[i] _ (Ob.sub' hcs) (Nat.le_trans (sz_get_le xs i hlt) hz)).cl ?_
    rintro _ H2 ⟨⟨s2, S2, c, rfl, w2, F2⟩, c2⟩
    have hL2 := hL.more s2
    obtain ⟨ds, T, hB, hcl, -, -⟩ := hL2.blk
    have hlc : c.length = 1 := Ob.len (Own.rep (W0 := W0) w2)
    have hlf : c.all leafA = true := Ob.leaf (Own.rep (W0 := W0) w2)
    have hlt2 := hL2.lt
    have hcl' : ds.length = xs.length * 1 := hcl
    have h := LayO.put hw hw' hL s2 hlt hlt w2 F2 hB
    simp only at h; rw [show i * Ob.n QueueD = i from Nat.mul_one i] at h
    repeat' (first | simp -implicitDefEqProofs only [go_sem] | (simp only [hB, Int.toNat_natCast]) | (with_reducible refine And.intro hlc ?_) | (with_reducible refine And.intro hlf ?_) | (with_reducible refine And.intro rfl ?_) | simp -implicitDefEqProofs (disch := omega) only [wrap_in, u8_small, Int.tmod_eq_emod_of_nonneg, Int.tdiv_eq_ediv_of_nonneg] | (with_reducible refine And.intro (by omega) ?_) | fail)
    exact back (i + 1) ⟨c2.1.set hlt2 _, by omega, h⟩ (by omega)
  · repeat' (first | simp -implicitDefEqProofs only [go_sem] | refine acond_decF (by omega) ?_ | refine abi_len_sl' (by assumption) ?_ | fail)
    obtain rfl : i = xs.length := by omega
    exact retK_one (hL.done (by simp only [big]; omega))
theorem eqQueueS_ok (W0 : World) (a b : AV) (xs ys : List QueueD) (H : AH) (ha : SlR W0 H a xs) (hb : SlR W0 H b ys) : ACalls Tryz.prog W0 70 [a, b] H (fun v H' => v = .v (.bool (decide (xs = ys))) ∧ H' = H) := by
  refine acallw Tryz.func70 rfl (by kernel_rfl) (by kernel_rfl) fun hc hw => ?_
  have ha2 := ha.2.1
  have hb2 := hb.2.1
  simp only [big] at ha2 hb2
  repeat' (first | simp -implicitDefEqProofs only [go_sem] | refine acond_ndec (fun _ => ?_) (fun _ => ?_) | refine abi_len_sl' (by assumption) ?_ | refine retK_eq ?_)
  · rw [decide_eq_false (fun h => by subst h; exact absurd rfl (by assumption))]
  refine acode_while (fun i : Nat => [(0, a), (1, b), (5, .v (.int .i64 i))]) (fun i H' => H' = H ∧ i ≤ xs.length ∧ xs.take i = ys.take i) (fun i => xs.length - i) 0 ⟨rfl, by omega, by simp⟩ ?_
  rintro i _ ⟨rfl, hi, hE⟩
  have hll : xs.length = ys.length := by omega
  rcases Nat.lt_or_ge i xs.length with hlt | hge
  · have hlt2 : i < ys.length := by omega
    repeat' (first | simp -implicitDefEqProofs only [go_sem] | (refine aK_slw (xs := xs) (by assumption) hlt ?_; intro cs hcs) | (refine aK_slw (xs := ys) (by assumption) hlt2 ?_; intro ds hds) | refine ACallK.eq (eqQueue_ok _ _ _ xs[i] ys[i] _ hcs hds) ?_ | refine acond_decT (by omega) ?_ | refine acond_ndec (fun _ => ?_) (fun _ => ?_) | refine abi_len_sl' (by assumption) ?_ | refine aixs_sln (by assumption) ?_ | simp -implicitDefEqProofs (disch := omega) only [wrap_in, u8_small, Int.tmod_eq_emod_of_nonneg, Int.tdiv_eq_ediv_of_nonneg] | ((with_reducible refine adraw_seq ?_ ?_ ?_); (· kernel_rfl); (· decide +kernel)) | refine retK_eq ?_)
    · rw [decide_eq_false (fun h => by subst h; exact absurd rfl (by assumption))]
    · exact back (i + 1) ⟨by omega, by rw [List.take_succ_eq_append_getElem hlt, List.take_succ_eq_append_getElem hlt2, hE]; congr 2⟩ (by omega)
  · repeat' (first | simp -implicitDefEqProofs only [go_sem] | refine acond_decF (by omega) ?_ | refine abi_len_sl' (by assumption) ?_ | refine retK_eq ?_)
    rw [List.take_of_length_le hge, List.take_of_length_le (by omega)] at hE
    rw [decide_eq_true hE]
end Go.Proofs.YtipfnhfcoolhaaaGreat.Aw
end
section
namespace Go.Proofs.YtipfnhfcoolhaaaGreat.Aw
open Go Go.RowKit
set_option maxRecDepth 100000
set_option maxHeartbeats 2000000
attribute [-go_sem] wr_eq
theorem szRow_ok (W0 : World) (cs : List AV) (x : RowD) (left : Int) (H : AH) (hx : Ob.rep W0 H cs x) (h0 : 0 ≤ left) (h1 : left ≤ 1048576) : ACalls Tryz.prog W0 265 [.agg cs, .v (.int .i64 left)] H (fun v H' => v = .v (.int .i64 (szLeft left (Ob.sz x))) ∧ H' = H) := by
  obtain ⟨rfl, f0, f1, f2, f3, f4, f5, f6, f7, f8⟩ := hx
  rw [show Ob.sz x = x.key.size from rfl]
  refine acallw Tryz.func265 rfl (by kernel_rfl) (by kernel_rfl) fun hc hw => ?_
  simp only [big] at f0
  repeat' (first | simp -implicitDefEqProofs only [go_sem] | (simp -implicitDefEqProofs (disch := omega) only [wrap_in]) | refine acond_dec (fun _ => ?_) (fun _ => ?_) | refine retK_back (by assumption) ?_ | fail)
  all_goals (refine iv ?_; unfold szLeft; first | (rw [if_neg (by omega)]; done) | (rw [if_pos (by omega)]; done) | (rw [if_pos (by omega)]; omega))
theorem eqRow_ok (W0 : World) (cs ds : List AV) (x y : RowD) (H : AH) (hx : Ob.rep W0 H cs x) (hy : Ob.rep W0 H ds y) : ACalls Tryz.prog W0 139 [.agg cs, .agg ds] H (fun v H' => v = .v (.bool (decide (x = y))) ∧ H' = H) := by
  obtain ⟨rfl, f0, f1, f2, f3, f4, f5, f6, f7, f8⟩ := hx
  obtain ⟨rfl, f0', f1', f2', f3', f4', f5', f6', f7', f8'⟩ := hy
  refine acallw Tryz.func139 rfl (by kernel_rfl) (by kernel_rfl) fun hc hw => ?_
  repeat' (first | simp -implicitDefEqProofs only [go_sem] | refine acond_ndec (fun _ => ?_) (fun _ => ?_) | refine retK_back (by assumption) ?_ | fail)
  all_goals first | (rw [decide_eq_false (fun h => by subst h; exact absurd rfl (by assumption))]; done) | (rw [decide_eq_false (fun h => by subst h; exact ne_of_nbeq (by assumption))]; done) | (rw [decide_eq_true (RowD.ext_iff'.2 (by (repeat' (with_reducible refine And.intro ?_ ?_)) <;> first | assumption | exact eq_of_nbeq (by assumption)))]; done)
theorem toRow_new (W0 : World) (cs : List AV) (x : RowD) (H : AH) (hx : Ob.rep W0 H cs x) (hz : Ob.sz x ≤ 1048576) : ACalls Tryz.prog W0 266 [.agg cs] H (fun v H' => NewV H H' v x) := by
  have hz2 : x.key.size ≤ 1048576 := hz
  obtain ⟨rfl, f0, f1, f2, f3, f4, f5, f6, f7, f8⟩ := hx
  refine acallw Tryz.func266 rfl (by kernel_rfl) (by kernel_rfl) fun hc hw => ?_
  repeat' (first | simp -implicitDefEqProofs only [go_sem] | (simp -implicitDefEqProofs only [set_set, wr_succ, wr_zero, wr_none, go_sem]))
  refine retK_one ?_
  exact ⟨by repeat (first | exact Sub.refl _ | assumption | refine Sub.new hc.1 ?_ _ _ | refine Sub.set hc.1 ?_ (by omega) _ | refine Sub.trans ?_ (by assumption)), [], _, rfl, ⟨rfl, rfl, f0, f1, f2, f3, f4, f5, f6, f7, f8⟩, Fresh.nil _⟩
theorem szRowS_ok (W0 : World) (a : AV) (xs : List RowD) (left : Int) (H : AH) (ha : SlR W0 H a xs) (h0 : 0 ≤ left) (h1 : left ≤ 1048576) : ACalls Tryz.prog W0 238 [a, .v (.int .i64 left)] H (fun v H' => v = .v (.int .i64 (szLeft left (Ob.sz xs))) ∧ H' = H) := by
  refine acallw Tryz.func238 rfl (by kernel_rfl) (by kernel_rfl) fun hc hw => ?_
  have hb := ha.2.1
  simp only [big] at hb
  rw [show Ob.sz xs = xs.length + (xs.map Ob.sz).sum from rfl]
  repeat' (first | simp -implicitDefEqProofs only [go_sem] | (simp -implicitDefEqProofs (disch := omega) only [wrap_in]) | refine acond_dec (fun _ => ?_) (fun _ => ?_) | refine abi_len_sl' (by assumption) ?_ | refine retK_eq ?_)
  · refine iv ?_; unfold szLeft; rw [if_neg (by omega)]
  refine acode_while (fun i : Nat => [(0, a), (1, .v (.int .i64 (left - xs.length - (((xs.take i).map Ob.sz).sum : Nat)))), (5, .v (.int .i64 i))]) (fun i H' => H' = H ∧ i ≤ xs.length ∧ 0 ≤ left - xs.length - (((xs.take i).map Ob.sz).sum : Nat)) (fun i => xs.length - i) 0 ⟨rfl, by omega, by simp; omega⟩ ?_ (by simp only [frOk, go_sem]; simp)
  rintro i _ ⟨rfl, hi, hl0⟩
  rcases Nat.lt_or_ge i xs.length with hlt | hge
  · have hsum : ((xs.take (i + 1)).map Ob.sz).sum = ((xs.take i).map Ob.sz).sum + Ob.sz xs[i] := by
      rw [List.take_succ_eq_append_getElem hlt, List.map_append, List.sum_append]; simp
    have hle : ((xs.take (i + 1)).map Ob.sz).sum ≤ (xs.map Ob.sz).sum := sum_take_le _ xs _
    repeat' (first | simp -implicitDefEqProofs only [go_sem] | (refine aK_slw (by assumption) hlt ?_; intro cs hcs) | (refine ACallK.szk (szRow_ok _ _ xs[i] _ _ hcs (by omega) (by omega)) (fun _ => ?_) (fun _ => ?_)) | refine acond_decF (by omega) ?_ | refine acond_decT (by omega) ?_ | refine abi_len_sl' (by assumption) ?_ | refine aixs_sln (by assumption) ?_ | simp -implicitDefEqProofs (disch := omega) only [wrap_in, u8_small, Int.tmod_eq_emod_of_nonneg, Int.tdiv_eq_ediv_of_nonneg] | refine retK_eq ?_)
    · refine iv ?_; unfold szLeft; rw [if_neg (by omega)]
    · exact back (i + 1) ⟨by omega, by omega⟩ (by omega) (by simp only [frOk, go_sem]; exact ⟨iv (by omega), iv (by omega)⟩)
  · repeat' (first | simp -implicitDefEqProofs only [go_sem] | refine acond_decF (by omega) ?_ | refine abi_len_sl' (by assumption) ?_ | refine retK_eq ?_)
    rw [List.take_of_length_le hge] at hl0
    refine iv ?_; unfold szLeft; rw [List.take_of_length_le hge, if_pos (by omega)]; omega
theorem toRowS_new (W0 : World) (a : AV) (xs : List RowD) (H : AH) (ha : SlR W0 H a xs) (hz : Ob.sz xs ≤ 1048576) : ACalls Tryz.prog W0 242 [a] H (fun v H' => NewS H H' v xs) := by
  refine acallw Tryz.func242 rfl (by kernel_rfl) (by kernel_rfl) fun hc hw => ?_
  have hlen : xs.length ≤ 1048576 := (by have h : Ob.sz xs = xs.length + (xs.map Ob.sz).sum := rfl; omega)
  repeat' (first | simp -implicitDefEqProofs only [go_sem] | refine abi_len_sl' (by assumption) ?_ | (with_reducible refine And.intro (by omega) ?_) | fail)
  refine acode_while (fun i : Nat => [(0, a), (3, .sl H.nxt 0 xs.length), (4, .v (.int .i64 i))]) (fun i H' => H'.wf ∧ i ≤ xs.length ∧ LayO H H' xs.length i xs) (fun i => xs.length - i) 0 ⟨hw.new _ _, by omega, LayO.start hw rfl rfl⟩ ?_
  rintro i H' ⟨hw', hi, hL⟩
  have hs := hL.sub
  rcases Nat.lt_or_ge i xs.length with hlt | hge
  · repeat' (first | simp -implicitDefEqProofs only [go_sem] | (refine aK_slw (by assumption) hlt ?_; intro cs hcs) | refine acond_decT (by omega) ?_ | refine abi_len_sl' (by assumption) ?_ | refine aixs_sln (by assumption) ?_ | fail)
    refine ACallK.of (toRow_new _ _ xs[i] _ (Ob.sub' hcs) (Nat.le_trans (sz_get_le xs i hlt) hz)).cl ?_
    rintro _ H2 ⟨⟨s2, S2, c, rfl, w2, F2⟩, c2⟩
    have hL2 := hL.more s2
    obtain ⟨ds, T, hB, hcl, -, -⟩ := hL2.blk
    have hlc : c.length = 10 := Ob.len (Own.rep (W0 := W0) w2)
    have hlf : c.all leafA = true := Ob.leaf (Own.rep (W0 := W0) w2)
    have hlt2 := hL2.lt
    have hcl' : ds.length = xs.length * 10 := hcl
    have h := LayO.put hw hw' hL s2 hlt hlt w2 F2 hB
    simp only at h
    repeat' (first | simp -implicitDefEqProofs only [go_sem] | (simp only [hB, Int.toNat_natCast]) | (with_reducible refine And.intro hlc ?_) | (with_reducible refine And.intro hlf ?_) | (with_reducible refine And.intro rfl ?_) | simp -implicitDefEqProofs (disch := omega) only [wrap_in, u8_small, Int.tmod_eq_emod_of_nonneg, Int.tdiv_eq_ediv_of_nonneg] | (with_reducible refine And.intro (by omega) ?_) | fail)
    exact back (i + 1) ⟨c2.1.set hlt2 _, by omega, h⟩ (by omega)
  · repeat' (first | simp -implicitDefEqProofs only [go_sem] | refine acond_decF (by omega) ?_ | refine abi_len_sl' (by assumption) ?_ | fail)
    obtain rfl : i = xs.length := by omega
    exact retK_one (hL.done (by simp only [big]; omega))
theorem eqRowS_ok (W0 : World) (a b : AV) (xs ys : List RowD) (H : AH) (ha : SlR W0 H a xs) (hb : SlR W0 H b ys) : ACalls Tryz.prog W0 56 [a, b] H (fun v H' => v = .v (.bool (decide (xs = ys))) ∧ H' = H) := by
  refine acallw Tryz.func56 rfl (by kernel_rfl) (by kernel_rfl) fun hc hw => ?_
  have ha2 := ha.2.1
  have hb2 := hb.2.1
  simp only [big] at ha2 hb2
  repeat' (first | simp -implicitDefEqProofs only [go_sem] | refine acond_ndec (fun _ => ?_) (fun _ => ?_) | refine abi_len_sl' (by assumption) ?_ | refine retK_eq ?_)
  · rw [decide_eq_false (fun h => by subst h; exact absurd rfl (by assumption))]
  refine acode_while (fun i : Nat => [(0, a), (1, b), (5, .v (.int .i64 i))]) (fun i H' => H' = H ∧ i ≤ xs.length ∧ xs.take i = ys.take i) (fun i => xs.length - i) 0 ⟨rfl, by omega, by simp⟩ ?_
  rintro i _ ⟨rfl, hi, hE⟩
  have hll : xs.length = ys.length := by omega
  rcases Nat.lt_or_ge i xs.length with hlt | hge
  · have hlt2 : i < ys.length := by omega
    repeat' (first | simp -implicitDefEqProofs only [go_sem] | (refine aK_slw (xs := xs) (by assumption) hlt ?_; intro cs hcs) | (refine aK_slw (xs := ys) (by assumption) hlt2 ?_; intro ds hds) | refine ACallK.eq (eqRow_ok _ _ _ xs[i] ys[i] _ hcs hds) ?_ | refine acond_decT (by omega) ?_ | refine acond_ndec (fun _ => ?_) (fun _ => ?_) | refine abi_len_sl' (by assumption) ?_ | refine aixs_sln (by assumption) ?_ | simp -implicitDefEqProofs (disch := omega) only [wrap_in, u8_small, Int.tmod_eq_emod_of_nonneg, Int.tdiv_eq_ediv_of_nonneg] | ((with_reducible refine adraw_seq ?_ ?_ ?_); (· kernel_rfl); (· decide +kernel)) | refine retK_eq ?_)
    · rw [decide_eq_false (fun h => by subst h; exact absurd rfl (by assumption))]
    · exact back (i + 1) ⟨by omega, by rw [List.take_succ_eq_append_getElem hlt, List.take_succ_eq_append_getElem hlt2, hE]; congr 2⟩ (by omega)
  · repeat' (first | simp -implicitDefEqProofs only [go_sem] | refine acond_decF (by omega) ?_ | refine abi_len_sl' (by assumption) ?_ | refine retK_eq ?_)
    rw [List.take_of_length_le hge, List.take_of_length_le (by omega)] at hE
    rw [decide_eq_true hE]
end Go.Proofs.YtipfnhfcoolhaaaGreat.Aw
end
section
namespace Go.Proofs.YtipfnhfcoolhaaaGreat.Aw
open Go Go.RowKit
set_option maxRecDepth 100000
set_option maxHeartbeats 2000000
attribute [-go_sem] wr_eq
theorem szEv_ok (W0 : World) (cs : List AV) (x : EvD) (left : Int) (H : AH) (hx : Ob.rep W0 H cs x) (h0 : 0 ≤ left) (h1 : left ≤ 1048576) : ACalls Tryz.prog W0 161 [.agg cs, .v (.int .i64 left)] H (fun v H' => v = .v (.int .i64 (szLeft left (Ob.sz x))) ∧ H' = H) := by
  obtain ⟨v_rows, rfl, f0, f1, f2, f3, f4, f5, f6, f7, f8, f9, f10, f11, f12⟩ := hx
  rw [show Ob.sz x = Ob.sz x.op + Ob.sz x.rows from rfl]
  refine acallw Tryz.func161 rfl (by kernel_rfl) (by kernel_rfl) fun hc hw => ?_
  repeat' (first | simp -implicitDefEqProofs only [go_sem] | (refine ACallK.szk (szOp_ok _ _ x.op _ _ ⟨rfl, f4, f5, f6, f7⟩ (by omega) (by omega)) (fun _ => ?_) (fun _ => ?_)) | (refine ACallK.szk (szRowS_ok _ _ x.rows _ _ (SlR.sub' f12) (by omega) (by omega)) (fun _ => ?_) (fun _ => ?_)) | refine acond_decF (by omega) ?_ | refine retK_back (by assumption) ?_ | fail)
  all_goals (refine iv ?_; unfold szLeft; first | (rw [if_neg (by omega)]; done) | (rw [if_pos (by omega)]; done) | (rw [if_pos (by omega)]; omega))
theorem eqEv_ok (W0 : World) (cs ds : List AV) (x y : EvD) (H : AH) (hx : Ob.rep W0 H cs x) (hy : Ob.rep W0 H ds y) : ACalls Tryz.prog W0 157 [.agg cs, .agg ds] H (fun v H' => v = .v (.bool (decide (x = y))) ∧ H' = H) := by
  obtain ⟨v_rows, rfl, f0, f1, f2, f3, f4, f5, f6, f7, f8, f9, f10, f11, f12⟩ := hx
  obtain ⟨v_rows', rfl, f0', f1', f2', f3', f4', f5', f6', f7', f8', f9', f10', f11', f12'⟩ := hy
  refine acallw Tryz.func157 rfl (by kernel_rfl) (by kernel_rfl) fun hc hw => ?_
  repeat' (first | simp -implicitDefEqProofs only [go_sem] | refine acond_ndec (fun _ => ?_) (fun _ => ?_) | refine ACallK.eq (eqOp_ok _ _ _ x.op y.op _ ⟨rfl, f4, f5, f6, f7⟩ ⟨rfl, f4', f5', f6', f7'⟩) ?_ | refine ACallK.eq (eqRowS_ok _ _ _ x.rows y.rows _ (SlR.sub' f12) (SlR.sub' f12')) ?_ | refine retK_back (by assumption) ?_ | fail)
  all_goals first | (rw [decide_eq_false (fun h => by subst h; exact absurd rfl (by assumption))]; done) | (rw [decide_eq_false (fun h => by subst h; exact ne_of_nbeq (by assumption))]; done) | (rw [decide_eq_true (EvD.ext_iff'.2 (by (repeat' (with_reducible refine And.intro ?_ ?_)) <;> first | assumption | exact eq_of_nbeq (by assumption)))]; done)
theorem toEv_new (W0 : World) (cs : List AV) (x : EvD) (H : AH) (hx : Ob.rep W0 H cs x) (hz : Ob.sz x ≤ 1048576) : ACalls Tryz.prog W0 165 [.agg cs] H (fun v H' => NewV H H' v x) := by
  have hz2 : Ob.sz x.op + Ob.sz x.rows ≤ 1048576 := hz
  obtain ⟨v_rows, rfl, f0, f1, f2, f3, f4, f5, f6, f7, f8, f9, f10, f11, f12⟩ := hx
  refine acallw Tryz.func165 rfl (by kernel_rfl) (by kernel_rfl) fun hc hw => ?_
  repeat' (first | simp -implicitDefEqProofs only [go_sem] | (simp -implicitDefEqProofs only [set_set, wr_succ, wr_zero, wr_none, go_sem]))
  refine ACallK.of (toOp_new W0 _ x.op _ ⟨rfl, f4, f5, f6, f7⟩ (by omega)).cl ?_
  rintro _ H1 ⟨⟨s1, S1, _, rfl, ⟨rfl, rfl, -⟩, -⟩, c1⟩
  have n1 := s1.1; simp only [go_sem] at n1
  have a1 := s1.2 H.nxt _ (by simp only [go_sem]; rfl)
  have o1 := s1.2 (H.nxt + 1) _ (by simp only [go_sem]; rfl)
  have l1 := s1.2 (H.nxt + 2) _ (by simp only [go_sem]; rfl)
  repeat' (first | simp -implicitDefEqProofs only [go_sem] | (simp -implicitDefEqProofs only [a1, o1, l1, set_set, wr_succ, wr_zero, wr_none, go_sem]))
  refine ACallK.of (toRowS_new W0 v_rows x.rows _ (f12.sub (by repeat (first | exact Sub.refl _ | assumption | refine Sub.new hc.1 ?_ _ _ | refine Sub.set hc.1 ?_ (by omega) _ | refine Sub.trans ?_ (by assumption)))) (by first | omega | (rw [obsz_int] at hz2; omega))).cl ?_
  rintro u2 H2 ⟨⟨s2, S2, w2, F2⟩, c2⟩
  have q2 : ∀ b ∈ S2, b < H2.nxt := fun b hb => c2.1.lt' (w2.isin b hb)
  have n2 := s2.1; simp only [go_sem] at n2
  have a2 := s2.2 H.nxt _ (by simp only [go_sem, a1]; rfl)
  have o2 := s2.2 (H.nxt + 1) _ (by simp only [go_sem, o1]; rfl)
  have l2 := s2.2 (H.nxt + 2) _ (by simp only [go_sem]; rfl)
  repeat' (first | simp -implicitDefEqProofs only [go_sem] | (simp -implicitDefEqProofs only [a2, o2, l2, w2.one, w2.leaf, set_set, wr_succ, wr_zero, wr_none, go_sem]))
  refine retK_one ?_
  refine ⟨by repeat (first | exact Sub.refl _ | assumption | refine Sub.new hc.1 ?_ _ _ | refine Sub.set hc.1 ?_ (by omega) _ | refine Sub.trans ?_ (by assumption)), _, _, rfl, ⟨u2, S2, rfl, rfl, f0, f1, f2, f3, f4, f5, f6, f7, f8, f9, f10, f11, w2.chg2 (fun b hb => by have := F2.2 b hb; simp only [go_sem] at this; omega)⟩, ?_⟩
  exact F2.le (by simp only [go_sem]; omega)
theorem szEvS_ok (W0 : World) (a : AV) (xs : List EvD) (left : Int) (H : AH) (ha : SlR W0 H a xs) (h0 : 0 ≤ left) (h1 : left ≤ 1048576) : ACalls Tryz.prog W0 80 [a, .v (.int .i64 left)] H (fun v H' => v = .v (.int .i64 (szLeft left (Ob.sz xs))) ∧ H' = H) := by
  refine acallw Tryz.func80 rfl (by kernel_rfl) (by kernel_rfl) fun hc hw => ?_
  have hb := ha.2.1
  simp only [big] at hb
  rw [show Ob.sz xs = xs.length + (xs.map Ob.sz).sum from rfl]
  repeat' (first | simp -implicitDefEqProofs only [go_sem] | (simp -implicitDefEqProofs (disch := omega) only [wrap_in]) | refine acond_dec (fun _ => ?_) (fun _ => ?_) | refine abi_len_sl' (by assumption) ?_ | refine retK_eq ?_)
  · refine iv ?_; unfold szLeft; rw [if_neg (by omega)]
  refine acode_while (fun i : Nat => [(0, a), (1, .v (.int .i64 (left - xs.length - (((xs.take i).map Ob.sz).sum : Nat)))), (5, .v (.int .i64 i))]) (fun i H' => H' = H ∧ i ≤ xs.length ∧ 0 ≤ left - xs.length - (((xs.take i).map Ob.sz).sum : Nat)) (fun i => xs.length - i) 0 ⟨rfl, by omega, by simp; omega⟩ ?_ (by simp only [frOk, go_sem]; simp)
  rintro i _ ⟨rfl, hi, hl0⟩
  rcases Nat.lt_or_ge i xs.length with hlt | hge
  · have hsum : ((xs.take (i + 1)).map Ob.sz).sum = ((xs.take i).map Ob.sz).sum + Ob.sz xs[i] := by
      rw [List.take_succ_eq_append_getElem hlt, List.map_append, List.sum_append]; simp
    have hle : ((xs.take (i + 1)).map Ob.sz).sum ≤ (xs.map Ob.sz).sum := sum_take_le _ xs _
    repeat' (first | simp -implicitDefEqProofs only [go_sem] | (refine aK_slw (by assumption) hlt ?_; intro cs hcs) | (refine ACallK.szk (szEv_ok _ _ xs[i] _ _ hcs (by omega) (by omega)) (fun _ => ?_) (fun _ => ?_)) | refine acond_decF (by omega) ?_ | refine acond_decT (by omega) ?_ | refine abi_len_sl' (by assumption) ?_ | refine aixs_sln (by assumption) ?_ | simp -implicitDefEqProofs (disch := omega) only [wrap_in, u8_small, Int.tmod_eq_emod_of_nonneg, Int.tdiv_eq_ediv_of_nonneg] | refine retK_eq ?_)
    · refine iv ?_; unfold szLeft; rw [if_neg (by omega)]
    · exact back (i + 1) ⟨by omega, by omega⟩ (by omega) (by simp only [frOk, go_sem]; exact ⟨iv (by omega), iv (by omega)⟩)
  · repeat' (first | simp -implicitDefEqProofs only [go_sem] | refine acond_decF (by omega) ?_ | refine abi_len_sl' (by assumption) ?_ | refine retK_eq ?_)
    rw [List.take_of_length_le hge] at hl0
    refine iv ?_; unfold szLeft; rw [List.take_of_length_le hge, if_pos (by omega)]; omega
theorem toEvS_new (W0 : World) (a : AV) (xs : List EvD) (H : AH) (ha : SlR W0 H a xs) (hz : Ob.sz xs ≤ 1048576) : ACalls Tryz.prog W0 83 [a] H (fun v H' => NewS H H' v xs) := by
  refine acallw Tryz.func83 rfl (by kernel_rfl) (by kernel_rfl) fun hc hw => ?_
  have hlen : xs.length ≤ 1048576 := (by have h : Ob.sz xs = xs.length + (xs.map Ob.sz).sum := rfl; omega)
  repeat' (first | simp -implicitDefEqProofs only [go_sem] | refine abi_len_sl' (by assumption) ?_ | (with_reducible refine And.intro (by omega) ?_) | fail)
  refine acode_while (fun i : Nat => [(0, a), (3, .sl H.nxt 0 xs.length), (4, .v (.int .i64 i))]) (fun i H' => H'.wf ∧ i ≤ xs.length ∧ LayO H H' xs.length i xs) (fun i => xs.length - i) 0 ⟨hw.new _ _, by omega, LayO.start hw rfl rfl⟩ ?_
  rintro i H' ⟨hw', hi, hL⟩
  have hs := hL.sub
  rcases Nat.lt_or_ge i xs.length with hlt | hge
  · repeat' (first | simp -implicitDefEqProofs only [go_sem] | (refine aK_slw (by assumption) hlt ?_; intro cs hcs) | refine acond_decT (by omega) ?_ | refine abi_len_sl' (by assumption) ?_ | refine aixs_sln (by assumption) ?_ | fail)
    refine ACallK.of (toEv_new _ _ xs[i] _ (Ob.sub' hcs) (Nat.le_trans (sz_get_le xs i hlt) hz)).cl ?_
    rintro _ H2 ⟨⟨s2, S2, c, rfl, w2, F2⟩, c2⟩
    have hL2 := hL.more s2
    obtain ⟨ds, T, hB, hcl, -, -⟩ := hL2.blk
    have hlc : c.length = 13 := Ob.len (Own.rep (W0 := W0) w2)
    have hlf : c.all leafA = true := Ob.leaf (Own.rep (W0 := W0) w2)
    have hlt2 := hL2.lt
    have hcl' : ds.length = xs.length * 13 := hcl
    have h := LayO.put hw hw' hL s2 hlt hlt w2 F2 hB
    simp only at h
    repeat' (first | simp -implicitDefEqProofs only [go_sem] | (simp only [hB, Int.toNat_natCast]) | (with_reducible refine And.intro hlc ?_) | (with_reducible refine And.intro hlf ?_) | (with_reducible refine And.intro rfl ?_) | simp -implicitDefEqProofs (disch := omega) only [wrap_in, u8_small, Int.tmod_eq_emod_of_nonneg, Int.tdiv_eq_ediv_of_nonneg] | (with_reducible refine And.intro (by omega) ?_) | fail)
    exact back (i + 1) ⟨c2.1.set hlt2 _, by omega, h⟩ (by omega)
  · repeat' (first | simp -implicitDefEqProofs only [go_sem] | refine acond_decF (by omega) ?_ | refine abi_len_sl' (by assumption) ?_ | fail)
    obtain rfl : i = xs.length := by omega
    exact retK_one (hL.done (by simp only [big]; omega))
theorem eqEvS_ok (W0 : World) (a b : AV) (xs ys : List EvD) (H : AH) (ha : SlR W0 H a xs) (hb : SlR W0 H b ys) : ACalls Tryz.prog W0 71 [a, b] H (fun v H' => v = .v (.bool (decide (xs = ys))) ∧ H' = H) := by
  refine acallw Tryz.func71 rfl (by kernel_rfl) (by kernel_rfl) fun hc hw => ?_
  have ha2 := ha.2.1
  have hb2 := hb.2.1
  simp only [big] at ha2 hb2
  repeat' (first | simp -implicitDefEqProofs only [go_sem] | refine acond_ndec (fun _ => ?_) (fun _ => ?_) | refine abi_len_sl' (by assumption) ?_ | refine retK_eq ?_)
  · rw [decide_eq_false (fun h => by subst h; exact absurd rfl (by assumption))]
  refine acode_while (fun i : Nat => [(0, a), (1, b), (5, .v (.int .i64 i))]) (fun i H' => H' = H ∧ i ≤ xs.length ∧ xs.take i = ys.take i) (fun i => xs.length - i) 0 ⟨rfl, by omega, by simp⟩ ?_
  rintro i _ ⟨rfl, hi, hE⟩
  have hll : xs.length = ys.length := by omega
  rcases Nat.lt_or_ge i xs.length with hlt | hge
  · have hlt2 : i < ys.length := by omega
    repeat' (first | simp -implicitDefEqProofs only [go_sem] | (refine aK_slw (xs := xs) (by assumption) hlt ?_; intro cs hcs) | (refine aK_slw (xs := ys) (by assumption) hlt2 ?_; intro ds hds) | refine ACallK.eq (eqEv_ok _ _ _ xs[i] ys[i] _ hcs hds) ?_ | refine acond_decT (by omega) ?_ | refine acond_ndec (fun _ => ?_) (fun _ => ?_) | refine abi_len_sl' (by assumption) ?_ | refine aixs_sln (by assumption) ?_ | simp -implicitDefEqProofs (disch := omega) only [wrap_in, u8_small, Int.tmod_eq_emod_of_nonneg, Int.tdiv_eq_ediv_of_nonneg] | ((with_reducible refine adraw_seq ?_ ?_ ?_); (· kernel_rfl); (· decide +kernel)) | refine retK_eq ?_)
    · rw [decide_eq_false (fun h => by subst h; exact absurd rfl (by assumption))]
    · exact back (i + 1) ⟨by omega, by rw [List.take_succ_eq_append_getElem hlt, List.take_succ_eq_append_getElem hlt2, hE]; congr 2⟩ (by omega)
  · repeat' (first | simp -implicitDefEqProofs only [go_sem] | refine acond_decF (by omega) ?_ | refine abi_len_sl' (by assumption) ?_ | refine retK_eq ?_)
    rw [List.take_of_length_le hge, List.take_of_length_le (by omega)] at hE
    rw [decide_eq_true hE]
end Go.Proofs.YtipfnhfcoolhaaaGreat.Aw
end
