/- Parts of a proof: HRow HKRow HModel QRow QKRow QModel. -/
import Derived.Test.YtipfnhfcoolhaaaGreatM13
set_option linter.unusedVariables false
set_option linter.unusedSimpArgs false
section
namespace Go.Proofs.YtipfnhfcoolhaaaGreat.Aw
open Go Go.RowKit
set_option maxRecDepth 100000
set_option maxHeartbeats 2000000
attribute [-go_sem] wr_eq
theorem szRow_ok (W0 : World) (cs : List AV) (x : RowD) (left : Int) (H : AH) (hx : Ob.rep W0 H cs x) (h0 : 0 ≤ left) (h1 : left ≤ 1048576) : ACalls Tryz.prog W0 265 [.agg cs, .v (.int .i64 left)] H (fun v H' => v = .v (.int .i64 (szLeft left (Ob.sz x))) ∧ H' = H) := by
  obtain ⟨rfl, f0, f1, f2, f3, f4, f5, f6, f7, f8⟩ := hx
  rw [show Ob.sz x = x.key.size from rfl]
  refine acallw Tryz.func265 rfl (by kernel_rfl) (by kernel_rfl) fun hc hw => ?_
  simp only [big] at f0
  repeat' (first | simp -implicitDefEqProofs only [go_sem] | (simp -implicitDefEqProofs (disch := omega) only [wrap_in]) | refine acond_dec (fun _ => ?_) (fun _ => ?_) | refine retK_back (by assumption) ?_ | fail)
  all_goals (refine iv ?_; unfold szLeft; first | (rw [if_neg (by omega)]; done) | (rw [if_pos (by omega)]; done) | (rw [if_pos (by omega)]; omega))
theorem eqRow_ok (W0 : World) (cs ds : List AV) (x y : RowD) (H : AH) (hx : Ob.rep W0 H cs x) (hy : Ob.rep W0 H ds y) : ACalls Tryz.prog W0 139 [.agg cs, .agg ds] H (fun v H' => v = .v (.bool (decide (x = y))) ∧ H' = H) := by
  obtain ⟨rfl, f0, f1, f2, f3, f4, f5, f6, f7, f8⟩ := hx
  obtain ⟨rfl, f0', f1', f2', f3', f4', f5', f6', f7', f8'⟩ := hy
  refine acallw Tryz.func139 rfl (by kernel_rfl) (by kernel_rfl) fun hc hw => ?_
  repeat' (first | simp -implicitDefEqProofs only [go_sem] | refine acond_ndec (fun _ => ?_) (fun _ => ?_) | refine retK_back (by assumption) ?_ | fail)
  all_goals first | (rw [decide_eq_false (fun h => by subst h; exact absurd rfl (by assumption))]; done) | (rw [decide_eq_false (fun h => by subst h; exact ne_of_nbeq (by assumption))]; done) | (rw [decide_eq_true (RowD.ext_iff'.2 (by (repeat' (with_reducible refine And.intro ?_ ?_)) <;> first | assumption | exact eq_of_nbeq (by assumption)))]; done)
theorem toRow_new (W0 : World) (cs : List AV) (x : RowD) (H : AH) (hx : Ob.rep W0 H cs x) (hz : Ob.sz x ≤ 1048576) : ACalls Tryz.prog W0 266 [.agg cs] H (fun v H' => NewV H H' v x) := by
  have hz2 : x.key.size ≤ 1048576 := hz
  obtain ⟨rfl, f0, f1, f2, f3, f4, f5, f6, f7, f8⟩ := hx
  refine acallw Tryz.func266 rfl (by kernel_rfl) (by kernel_rfl) fun hc hw => ?_
  repeat' (first | simp -implicitDefEqProofs only [go_sem] | (simp -implicitDefEqProofs only [set_set, wr_succ, wr_zero, wr_none, go_sem]))
  refine retK_one ?_
  exact ⟨by repeat (first | exact Sub.refl _ | assumption | refine Sub.new hc.1 ?_ _ _ | refine Sub.set hc.1 ?_ (by omega) _ | refine Sub.trans ?_ (by assumption)), [], _, rfl, ⟨rfl, rfl, f0, f1, f2, f3, f4, f5, f6, f7, f8⟩, Fresh.nil _⟩
theorem szRowS_ok (W0 : World) (a : AV) (xs : List RowD) (left : Int) (H : AH) (ha : SlR W0 H a xs) (h0 : 0 ≤ left) (h1 : left ≤ 1048576) : ACalls Tryz.prog W0 238 [a, .v (.int .i64 left)] H (fun v H' => v = .v (.int .i64 (szLeft left (Ob.sz xs))) ∧ H' = H) := by
  refine acallw Tryz.func238 rfl (by kernel_rfl) (by kernel_rfl) fun hc hw => ?_
  have hb := ha.2.1
  simp only [big] at hb
  rw [show Ob.sz xs = xs.length + (xs.map Ob.sz).sum from rfl]
  repeat' (first | simp -implicitDefEqProofs only [go_sem] | (simp -implicitDefEqProofs (disch := omega) only [wrap_in]) | refine acond_dec (fun _ => ?_) (fun _ => ?_) | refine abi_len_sl' (by assumption) ?_ | refine retK_eq ?_)
  · refine iv ?_; unfold szLeft; rw [if_neg (by omega)]
  refine acode_while (fun i : Nat => [(0, a), (1, .v (.int .i64 (left - xs.length - (((xs.take i).map Ob.sz).sum : Nat)))), (5, .v (.int .i64 i))]) (fun i H' => H' = H ∧ i ≤ xs.length ∧ 0 ≤ left - xs.length - (((xs.take i).map Ob.sz).sum : Nat)) (fun i => xs.length - i) 0 ⟨rfl, by omega, by simp; omega⟩ ?_ (by simp only [frOk, go_sem]; simp)
  rintro i _ ⟨rfl, hi, hl0⟩
  rcases Nat.lt_or_ge i xs.length with hlt | hge
  · have hsum : ((xs.take (i + 1)).map Ob.sz).sum = ((xs.take i).map Ob.sz).sum + Ob.sz xs[i] := by
      rw [List.take_succ_eq_append_getElem hlt, List.map_append, List.sum_append]; simp
    have hle : ((xs.take (i + 1)).map Ob.sz).sum ≤ (xs.map Ob.sz).sum := sum_take_le _ xs _
    repeat' (first | simp -implicitDefEqProofs only [go_sem] | (refine aK_slw (by assumption) hlt ?_; intro cs hcs) | (refine ACallK.szk (szRow_ok _ _ xs[i] _ _ hcs (by omega) (by omega)) (fun _ => ?_) (fun _ => ?_)) | refine acond_decF (by omega) ?_ | refine acond_decT (by omega) ?_ | refine abi_len_sl' (by assumption) ?_ | refine aixs_sln (by assumption) ?_ | simp -implicitDefEqProofs (disch := omega) only [wrap_in, u8_small, Int.tmod_eq_emod_of_nonneg, Int.tdiv_eq_ediv_of_nonneg] | refine retK_eq ?_)
    · refine iv ?_; unfold szLeft; rw [if_neg (by omega)]
    · exact back (i + 1) ⟨by omega, by omega⟩ (by omega) (by simp only [frOk, go_sem]; exact ⟨iv (by omega), iv (by omega)⟩)
  · repeat' (first | simp -implicitDefEqProofs only [go_sem] | refine acond_decF (by omega) ?_ | refine abi_len_sl' (by assumption) ?_ | refine retK_eq ?_)
    rw [List.take_of_length_le hge] at hl0
    refine iv ?_; unfold szLeft; rw [List.take_of_length_le hge, if_pos (by omega)]; omega
theorem toRowS_new (W0 : World) (a : AV) (xs : List RowD) (H : AH) (ha : SlR W0 H a xs) (hz : Ob.sz xs ≤ 1048576) : ACalls Tryz.prog W0 242 [a] H (fun v H' => NewS H H' v xs) := by
  refine acallw Tryz.func242 rfl (by kernel_rfl) (by kernel_rfl) fun hc hw => ?_
  have hlen : xs.length ≤ 1048576 := (by have h : Ob.sz xs = xs.length + (xs.map Ob.sz).sum := rfl; omega)
  repeat' (first | simp -implicitDefEqProofs only [go_sem] | refine abi_len_sl' (by assumption) ?_ | (with_reducible refine And.intro (by omega) ?_) | fail)
  refine acode_while (fun i : Nat => [(0, a), (3, .sl H.nxt 0 xs.length), (4, .v (.int .i64 i))]) (fun i H' => H'.wf ∧ i ≤ xs.length ∧ LayO H H' xs.length i xs) (fun i => xs.length - i) 0 ⟨hw.new _ _, by omega, LayO.start hw rfl rfl⟩ ?_
  rintro i H' ⟨hw', hi, hL⟩
  have hs := hL.sub
  rcases Nat.lt_or_ge i xs.length with hlt | hge
  · repeat' (first | simp -implicitDefEqProofs only [go_sem] | (refine aK_slw (by assumption) hlt ?_; intro cs hcs) | refine acond_decT (by omega) ?_ | refine abi_len_sl' (by assumption) ?_ | refine aixs_sln (by assumption) ?_ | fail)
    refine ACallK.of (toRow_new _ _ xs[i] _ (Ob.sub' hcs) (Nat.le_trans (sz_get_le xs i hlt) hz)).cl ?_
    rintro _ H2 ⟨⟨s2, S2, c, rfl, w2, F2⟩, c2⟩
    have hL2 := hL.more s2
    obtain ⟨ds, T, hB, hcl, -, -⟩ := hL2.blk
    have hlc : c.length = 10 := Ob.len (Own.rep (W0 := W0) w2)
    have hlf : c.all leafA = true := Ob.leaf (Own.rep (W0 := W0) w2)
    have hlt2 := hL2.lt
    have hcl' : ds.length = xs.length * 10 := hcl
    have h := LayO.put hw hw' hL s2 hlt hlt w2 F2 hB
    simp only at h
    repeat' (first | simp -implicitDefEqProofs only [go_sem] | (simp only [hB, Int.toNat_natCast]) | (with_reducible refine And.intro hlc ?_) | (with_reducible refine And.intro hlf ?_) | (with_reducible refine And.intro rfl ?_) | simp -implicitDefEqProofs (disch := omega) only [wrap_in, u8_small, Int.tmod_eq_emod_of_nonneg, Int.tdiv_eq_ediv_of_nonneg] | (with_reducible refine And.intro (by omega) ?_) | fail)
    exact back (i + 1) ⟨c2.1.set hlt2 _, by omega, h⟩ (by omega)
  · repeat' (first | simp -implicitDefEqProofs only [go_sem] | refine acond_decF (by omega) ?_ | refine abi_len_sl' (by assumption) ?_ | fail)
    obtain rfl : i = xs.length := by omega
    exact retK_one (hL.done (by simp only [big]; omega))
theorem eqRowS_ok (W0 : World) (a b : AV) (xs ys : List RowD) (H : AH) (ha : SlR W0 H a xs) (hb : SlR W0 H b ys) : ACalls Tryz.prog W0 56 [a, b] H (fun v H' => v = .v (.bool (decide (xs = ys))) ∧ H' = H) := by
  refine acallw Tryz.func56 rfl (by kernel_rfl) (by kernel_rfl) fun hc hw => ?_
  have ha2 := ha.2.1
  have hb2 := hb.2.1
  simp only [big] at ha2 hb2
  repeat' (first | simp -implicitDefEqProofs only [go_sem] | refine acond_ndec (fun _ => ?_) (fun _ => ?_) | refine abi_len_sl' (by assumption) ?_ | refine retK_eq ?_)
  · rw [decide_eq_false (fun h => by subst h; exact absurd rfl (by assumption))]
  refine acode_while (fun i : Nat => [(0, a), (1, b), (5, .v (.int .i64 i))]) (fun i H' => H' = H ∧ i ≤ xs.length ∧ xs.take i = ys.take i) (fun i => xs.length - i) 0 ⟨rfl, by omega, by simp⟩ ?_
  rintro i _ ⟨rfl, hi, hE⟩
  have hll : xs.length = ys.length := by omega
  rcases Nat.lt_or_ge i xs.length with hlt | hge
  · have hlt2 : i < ys.length := by omega
    repeat' (first | simp -implicitDefEqProofs only [go_sem] | (refine aK_slw (xs := xs) (by assumption) hlt ?_; intro cs hcs) | (refine aK_slw (xs := ys) (by assumption) hlt2 ?_; intro ds hds) | refine ACallK.eq (eqRow_ok _ _ _ xs[i] ys[i] _ hcs hds) ?_ | refine acond_decT (by omega) ?_ | refine acond_ndec (fun _ => ?_) (fun _ => ?_) | refine abi_len_sl' (by assumption) ?_ | refine aixs_sln (by assumption) ?_ | simp -implicitDefEqProofs (disch := omega) only [wrap_in, u8_small, Int.tmod_eq_emod_of_nonneg, Int.tdiv_eq_ediv_of_nonneg] | ((with_reducible refine adraw_seq ?_ ?_ ?_); (· kernel_rfl); (· decide +kernel)) | refine retK_eq ?_)
    · rw [decide_eq_false (fun h => by subst h; exact absurd rfl (by assumption))]
    · exact back (i + 1) ⟨by omega, by rw [List.take_succ_eq_append_getElem hlt, List.take_succ_eq_append_getElem hlt2, hE]; congr 2⟩ (by omega)
  · repeat' (first | simp -implicitDefEqProofs only [go_sem] | refine acond_decF (by omega) ?_ | refine abi_len_sl' (by assumption) ?_ | refine retK_eq ?_)
    rw [List.take_of_length_le hge, List.take_of_length_le (by omega)] at hE
    rw [decide_eq_true hE]
end Go.Proofs.YtipfnhfcoolhaaaGreat.Aw
end
section
namespace Go.Proofs.YtipfnhfcoolhaaaGreat.Aw
open Go Go.RowKit
set_option maxRecDepth 100000
set_option maxHeartbeats 2000000
attribute [-go_sem] wr_eq
theorem eqKRow_ok (W0 : World) (cs ds : List AV) (x y : KRowD) (H : AH) (hx : Ob.rep W0 H cs x) (hy : Ob.rep W0 H ds y) : ACalls Tryz.prog W0 138 [.agg cs, .agg ds] H (fun v H' => v = .v (.bool (decide (x = y))) ∧ H' = H) := by
  obtain ⟨rfl, f0, f1⟩ := hx
  obtain ⟨rfl, f0', f1'⟩ := hy
  refine acallw Tryz.func138 rfl (by kernel_rfl) (by kernel_rfl) fun hc hw => ?_
  repeat' (first | simp -implicitDefEqProofs only [go_sem] | refine acond_dec (fun _ => ?_) (fun _ => ?_) | refine acond_ndec (fun _ => ?_) (fun _ => ?_) | refine agrd_dec (fun _ => ?_) (fun _ => ?_) | refine agrd_decf (fun _ => ?_) (fun _ => ?_) | refine agrd_ndec (fun _ => ?_) (fun _ => ?_) | refine agrd_ndecf (fun _ => ?_) (fun _ => ?_) | refine abi_len_sl' (by assumption) ?_ | refine aixs_sln (by assumption) ?_ | refine afa_sl (by assumption) ?_ | (refine aK_sl (by assumption) (by omega) ?_; first | rintro _ ⟨rfl, _⟩ | (intro _ hx; obtain ⟨_, rfl, _, _⟩ := EvD.out hx) | (intro _ hx; obtain ⟨_, _, rfl, _, _, _⟩ := JobD.out hx) | rintro _ ⟨_, rfl, _⟩) | rw [SlR.one (by assumption)] | rw [SlR.leaf (by assumption)] | simp -implicitDefEqProofs (disch := omega) only [wrap_in, u8_small, Int.tmod_eq_emod_of_nonneg, Int.tdiv_eq_ediv_of_nonneg] | refine aK_sub (by assumption) ?_ | refine aix_strn (fun _ _ => ?_) | ((with_reducible refine adraw_seq ?_ ?_ ?_); (· kernel_rfl); (· decide +kernel)) | simp -implicitDefEqProofs only [go_sem, slCells_own, aapp_own] | refine And.intro (by omega) (And.intro (by omega) ?_) | refine acond_split (fun _ => ?_) (fun _ => ?_) | refine agrd_bt (fun _ => ?_) (fun _ => ?_) | refine agrd_bf (fun _ => ?_) (fun _ => ?_) | refine retK_eq ?_ | refine retK_back (by assumption) ?_ | refine retK_eq2 ?_ | refine retK_back2 (by assumption) ?_)
  all_goals first | (rw [decide_eq_false (fun h => by subst h; exact absurd rfl (by assumption))]; done) | (rw [decide_eq_false (fun h => by subst h; exact ne_of_nbeq (by assumption))]; done) | (rw [decide_eq_true (KRowD.ext_iff'.2 (by (repeat' (with_reducible refine And.intro ?_ ?_)) <;> first | assumption | exact eq_of_nbeq (by assumption)))]; done)
theorem eqKRowS_ok (W0 : World) (a b : AV) (xs ys : List KRowD) (H : AH) (ha : SlR W0 H a xs) (hb : SlR W0 H b ys) : ACalls Tryz.prog W0 55 [a, b] H (fun v H' => v = .v (.bool (decide (xs = ys))) ∧ H' = H) := by
  refine acallw Tryz.func55 rfl (by kernel_rfl) (by kernel_rfl) fun hc hw => ?_
  have ha2 := ha.2.1
  have hb2 := hb.2.1
  simp only [big] at ha2 hb2
  repeat' (first | simp -implicitDefEqProofs only [go_sem] | refine acond_dec (fun _ => ?_) (fun _ => ?_) | refine acond_ndec (fun _ => ?_) (fun _ => ?_) | refine agrd_dec (fun _ => ?_) (fun _ => ?_) | refine agrd_decf (fun _ => ?_) (fun _ => ?_) | refine agrd_ndec (fun _ => ?_) (fun _ => ?_) | refine agrd_ndecf (fun _ => ?_) (fun _ => ?_) | refine abi_len_sl' (by assumption) ?_ | refine aixs_sln (by assumption) ?_ | refine afa_sl (by assumption) ?_ | (refine aK_sl (by assumption) (by omega) ?_; first | rintro _ ⟨rfl, _⟩ | (intro _ hx; obtain ⟨_, rfl, _, _⟩ := EvD.out hx) | (intro _ hx; obtain ⟨_, _, rfl, _, _, _⟩ := JobD.out hx) | rintro _ ⟨_, rfl, _⟩) | rw [SlR.one (by assumption)] | rw [SlR.leaf (by assumption)] | simp -implicitDefEqProofs (disch := omega) only [wrap_in, u8_small, Int.tmod_eq_emod_of_nonneg, Int.tdiv_eq_ediv_of_nonneg] | refine aK_sub (by assumption) ?_ | refine aix_strn (fun _ _ => ?_) | ((with_reducible refine adraw_seq ?_ ?_ ?_); (· kernel_rfl); (· decide +kernel)) | simp -implicitDefEqProofs only [go_sem, slCells_own, aapp_own] | refine And.intro (by omega) (And.intro (by omega) ?_) | refine acond_split (fun _ => ?_) (fun _ => ?_) | refine agrd_bt (fun _ => ?_) (fun _ => ?_) | refine agrd_bf (fun _ => ?_) (fun _ => ?_) | refine retK_eq ?_ | refine retK_back (by assumption) ?_ | refine retK_eq2 ?_ | refine retK_back2 (by assumption) ?_)
  · rw [decide_eq_false (fun h => by subst h; exact absurd rfl (by assumption))]
  refine acode_while (fun i : Nat => [(0, a), (1, b), (5, .v (.int .i64 i))]) (fun i H' => H' = H ∧ i ≤ xs.length ∧ xs.take i = ys.take i) (fun i => xs.length - i) 0 ⟨rfl, by omega, by simp⟩ ?_
  rintro i _ ⟨rfl, hi, hE⟩
  have hll : xs.length = ys.length := by omega
  rcases Nat.lt_or_ge i xs.length with hlt | hge
  · have hlt2 : i < ys.length := by omega
    repeat' (first | simp -implicitDefEqProofs only [go_sem] | (refine aK_slw (xs := xs) (by assumption) hlt ?_; intro cs hcs) | (refine aK_slw (xs := ys) (by assumption) hlt2 ?_; intro ds hds) | refine ACallK.eq (eqKRow_ok _ _ _ xs[i] ys[i] _ hcs hds) ?_ | refine acond_decF (by omega) ?_ | refine acond_decT (by omega) ?_ | refine acond_ndecF (by omega) ?_ | refine acond_ndecT (by omega) ?_ | refine acond_dec (fun _ => ?_) (fun _ => ?_) | refine acond_ndec (fun _ => ?_) (fun _ => ?_) | refine agrd_dec (fun _ => ?_) (fun _ => ?_) | refine agrd_decf (fun _ => ?_) (fun _ => ?_) | refine agrd_ndec (fun _ => ?_) (fun _ => ?_) | refine agrd_ndecf (fun _ => ?_) (fun _ => ?_) | refine abi_len_sl' (by assumption) ?_ | refine aixs_sln (by assumption) ?_ | refine afa_sl (by assumption) ?_ | (refine aK_sl (by assumption) (by omega) ?_; first | rintro _ ⟨rfl, _⟩ | (intro _ hx; obtain ⟨_, rfl, _, _⟩ := EvD.out hx) | (intro _ hx; obtain ⟨_, _, rfl, _, _, _⟩ := JobD.out hx) | rintro _ ⟨_, rfl, _⟩) | rw [SlR.one (by assumption)] | rw [SlR.leaf (by assumption)] | simp -implicitDefEqProofs (disch := omega) only [wrap_in, u8_small, Int.tmod_eq_emod_of_nonneg, Int.tdiv_eq_ediv_of_nonneg] | refine aK_sub (by assumption) ?_ | refine aix_strn (fun _ _ => ?_) | ((with_reducible refine adraw_seq ?_ ?_ ?_); (· kernel_rfl); (· decide +kernel)) | simp -implicitDefEqProofs only [go_sem, slCells_own, aapp_own] | (with_reducible refine And.intro (by omega) ?_) | refine And.intro (by omega) (And.intro (by omega) ?_) | refine acond_split (fun _ => ?_) (fun _ => ?_) | refine agrd_bt (fun _ => ?_) (fun _ => ?_) | refine agrd_bf (fun _ => ?_) (fun _ => ?_) | refine retK_eq ?_ | refine retK_back (by assumption) ?_ | refine retK_eq2 ?_ | refine retK_back2 (by assumption) ?_ | (with_reducible refine And.intro ?_ ?_))
    · rw [decide_eq_false (fun h => by subst h; exact absurd rfl (by assumption))]
    · exact back (i + 1) ⟨by omega, by rw [List.take_succ_eq_append_getElem hlt, List.take_succ_eq_append_getElem hlt2, hE]; congr 2⟩ (by omega)
  · repeat' (first | simp -implicitDefEqProofs only [go_sem] | refine acond_decF (by omega) ?_ | refine acond_decT (by omega) ?_ | refine acond_ndecF (by omega) ?_ | refine acond_ndecT (by omega) ?_ | refine acond_dec (fun _ => ?_) (fun _ => ?_) | refine acond_ndec (fun _ => ?_) (fun _ => ?_) | refine agrd_dec (fun _ => ?_) (fun _ => ?_) | refine agrd_decf (fun _ => ?_) (fun _ => ?_) | refine agrd_ndec (fun _ => ?_) (fun _ => ?_) | refine agrd_ndecf (fun _ => ?_) (fun _ => ?_) | refine abi_len_sl' (by assumption) ?_ | refine aixs_sln (by assumption) ?_ | refine afa_sl (by assumption) ?_ | (refine aK_sl (by assumption) (by omega) ?_; first | rintro _ ⟨rfl, _⟩ | (intro _ hx; obtain ⟨_, rfl, _, _⟩ := EvD.out hx) | (intro _ hx; obtain ⟨_, _, rfl, _, _, _⟩ := JobD.out hx) | rintro _ ⟨_, rfl, _⟩) | rw [SlR.one (by assumption)] | rw [SlR.leaf (by assumption)] | simp -implicitDefEqProofs (disch := omega) only [wrap_in, u8_small, Int.tmod_eq_emod_of_nonneg, Int.tdiv_eq_ediv_of_nonneg] | refine aK_sub (by assumption) ?_ | refine aix_strn (fun _ _ => ?_) | ((with_reducible refine adraw_seq ?_ ?_ ?_); (· kernel_rfl); (· decide +kernel)) | simp -implicitDefEqProofs only [go_sem, slCells_own, aapp_own] | (with_reducible refine And.intro (by omega) ?_) | refine And.intro (by omega) (And.intro (by omega) ?_) | refine acond_split (fun _ => ?_) (fun _ => ?_) | refine agrd_bt (fun _ => ?_) (fun _ => ?_) | refine agrd_bf (fun _ => ?_) (fun _ => ?_) | refine retK_eq ?_ | refine retK_back (by assumption) ?_ | refine retK_eq2 ?_ | refine retK_back2 (by assumption) ?_ | (with_reducible refine And.intro ?_ ?_))
    rw [List.take_of_length_le hge, List.take_of_length_le (by omega)] at hE
    rw [decide_eq_true hE]
end Go.Proofs.YtipfnhfcoolhaaaGreat.Aw
end
section
namespace Go.Proofs.YtipfnhfcoolhaaaGreat.Aw
open Go Go.RowKit
set_option maxRecDepth 100000
set_option maxHeartbeats 2000000
attribute [-go_sem] wr_eq
theorem eqModel_ok (W0 : World) (cs ds : List AV) (x y : ModelD) (H : AH) (hx : Ob.rep W0 H cs x) (hy : Ob.rep W0 H ds y) : ACalls Tryz.prog W0 12 [.agg cs, .agg ds] H (fun v H' => v = .v (.bool (decide (x = y))) ∧ H' = H) := by
  obtain ⟨v_keys, v_rows, rfl, f0, f1⟩ := hx
  obtain ⟨v_keys', v_rows', rfl, f0', f1'⟩ := hy
  refine acallw Tryz.func12 rfl (by kernel_rfl) (by kernel_rfl) fun hc hw => ?_
  repeat' (first | simp -implicitDefEqProofs only [go_sem] | refine acond_dec (fun _ => ?_) (fun _ => ?_) | refine acond_ndec (fun _ => ?_) (fun _ => ?_) | refine agrd_dec (fun _ => ?_) (fun _ => ?_) | refine agrd_decf (fun _ => ?_) (fun _ => ?_) | refine agrd_ndec (fun _ => ?_) (fun _ => ?_) | refine agrd_ndecf (fun _ => ?_) (fun _ => ?_) | refine abi_len_sl' (by assumption) ?_ | refine aixs_sln (by assumption) ?_ | refine afa_sl (by assumption) ?_ | (refine aK_sl (by assumption) (by omega) ?_; first | rintro _ ⟨rfl, _⟩ | (intro _ hx; obtain ⟨_, rfl, _, _⟩ := EvD.out hx) | (intro _ hx; obtain ⟨_, _, rfl, _, _, _⟩ := JobD.out hx) | rintro _ ⟨_, rfl, _⟩) | rw [SlR.one (by assumption)] | rw [SlR.leaf (by assumption)] | simp -implicitDefEqProofs (disch := omega) only [wrap_in, u8_small, Int.tmod_eq_emod_of_nonneg, Int.tdiv_eq_ediv_of_nonneg] | refine aK_sub (by assumption) ?_ | refine aix_strn (fun _ _ => ?_) | ((with_reducible refine adraw_seq ?_ ?_ ?_); (· kernel_rfl); (· decide +kernel)) | refine ACallK.eq (eqKRowS_ok _ _ _ x.keys y.keys _ (SlR.sub' f0) (SlR.sub' f0')) ?_ | refine ACallK.eq (eqRowS_ok _ _ _ x.rows y.rows _ (SlR.sub' f1) (SlR.sub' f1')) ?_ | simp -implicitDefEqProofs only [go_sem, slCells_own, aapp_own] | refine And.intro (by omega) (And.intro (by omega) ?_) | refine acond_split (fun _ => ?_) (fun _ => ?_) | refine agrd_bt (fun _ => ?_) (fun _ => ?_) | refine agrd_bf (fun _ => ?_) (fun _ => ?_) | refine retK_eq ?_ | refine retK_back (by assumption) ?_ | refine retK_eq2 ?_ | refine retK_back2 (by assumption) ?_)
  all_goals first | (rw [decide_eq_false (fun h => by subst h; exact absurd rfl (by assumption))]; done) | (rw [decide_eq_false (fun h => by subst h; exact ne_of_nbeq (by assumption))]; done) | (rw [decide_eq_true (ModelD.ext_iff'.2 (by (repeat' (with_reducible refine And.intro ?_ ?_)) <;> first | assumption | exact eq_of_nbeq (by assumption)))]; done)
end Go.Proofs.YtipfnhfcoolhaaaGreat.Aw
end
section
namespace Go.Proofs.YtipfnhfcoolhaaaGreat.Aw
open Go Go.RowKit
set_option maxRecDepth 100000
set_option maxHeartbeats 2000000
attribute [-go_sem] wr_eq
theorem markRowS_ok (W0 : World) (v : AV) (xs : List RowD) (k : Int) (S : List Nat) (H : AH) (ho : OwnS H S v xs) (hn : S.Nodup) (h0 : 0 < k) (h1 : k + cntL xs ≤ 4611686018427387904) :
    ACalls Tryz.prog W0 58 [v, .v (.int .i64 k)] H (fun u H' => u = .v (.int .i64 (k + cntL xs)) ∧ Chg S H H' ∧ OwnS H' S v (putL xs k)) := by
  refine acallw Tryz.func58 rfl (by kernel_rfl) (by kernel_rfl) fun hc hw => ?_
  have ha := ho.slr (W0 := W0)
  have hb := ha.2.1; simp only [big] at hb
  repeat' (first | simp -implicitDefEqProofs only [go_sem])
  refine acode_while (fun i : Nat => [(0, v), (1, .v (.int .i64 (k + cntL (xs.take i)))), (5, .v (.int .i64 i))]) (fun i H' => Chg S H H' ∧ i ≤ xs.length ∧ OwnS H' S v (mkTo xs k i)) (fun i => xs.length - i) 0 ⟨Chg.refl _ _, by omega, by rw [mkTo_zero]; exact ho⟩ ?_ (by simp only [frOk, go_sem]; simp [cntL])
  rintro i H' ⟨hC, hi, hO⟩
  have hl := (hO.slr (W0 := W0)).slLen
  rw [mkTo_length] at hl
  have hc2 := cntL_take_le xs i
  rcases Nat.lt_or_ge i xs.length with hlt | hge
  · obtain ⟨b, o, pre, mid, post, S1, S2, S3, rfl, hB, hp, hm, hS, hown, put⟩ := hO.get i (by rw [mkTo_length]; exact hlt)
    rw [mkTo_get _ _ _ hlt] at hown
    simp only [mkTo_length] at *
    obtain ⟨rfl, rfl, f0, f1, f2, f3, f4, f5, f6, f7, f8⟩ := hown
    simp only [Ob.n, Nat.mul_one, List.cons_append, List.nil_append] at hB hp
    have hc := cntL_take hlt
    have hc2 := cntL_take_le xs (i + 1)
    have hc3 : Mk.cnt xs[i] = 10 := rfl
    have hne := foc_ne hS hn
    have hbS : b ∈ S := by rw [hS]; exact List.mem_cons_self ..
    generalize hkk : k + (cntL (xs.take i) : Int) = kk at *
    repeat' (first | simp -implicitDefEqProofs only [go_sem] | (simp -implicitDefEqProofs (disch := omega) only [hB, blk_set_self, Int.toNat_natCast, wr_preA hp, wr_pre0 hp, wr_succ, wr_zero, wr_none, set_set, List.length_append, List.length_cons]) | refine ACallK.eq (markText_ok _ _ _ (by omega)) ?_ | refine acond_decT (by omega) ?_ | simp -implicitDefEqProofs (disch := omega) only [wrap_in, u8_small, Int.tmod_eq_emod_of_nonneg, Int.tdiv_eq_ediv_of_nonneg] | (with_reducible refine And.intro (by omega) ?_) | fail)
    refine back (i + 1) ⟨hC.set hbS _, by omega, ?_⟩ (by omega) (by simp only [frOk, go_sem]; exact ⟨iv (by omega), iv (by omega)⟩)
    rw [← mkTo_set xs k i hlt, hkk, hS]
    exact put _ [] [_, _, _, _, _, _, _, _, _, _] _ (blk_set_self _ _ _) (fun x hx => blk_set_ne _ (hne x hx) _) ⟨rfl, rfl, by have := mtext_size; simp only [big]; exact Nat.le_trans (this _) (by decide), by simp only [inI64, Mk.put]; omega, by simp only [inI64, Mk.put]; omega, by simp only [inI64, Mk.put]; omega, by simp only [inI64, Mk.put]; omega, by simp only [inI64, Mk.put]; omega, by simp only [inI64, Mk.put]; omega, by simp only [inI64, Mk.put]; omega, by simp only [inI64, Mk.put]; omega⟩
  · repeat' (first | simp -implicitDefEqProofs only [go_sem] | refine acond_decF (by omega) ?_ | refine abi_len_sl' (by assumption) ?_ | fail)
    rw [List.take_of_length_le hge]
    exact retK_one ⟨rfl, hC, by rw [← mkTo_all xs k hge]; exact hO⟩
theorem heldRowS_ok (W0 : World) (v : AV) (xs : List RowD) (k : Int) (H : AH) (ha : SlR W0 H v (putL xs k)) (h0 : 0 < k) (h1 : k + cntL xs ≤ 4611686018427387904) :
    ACalls Tryz.prog W0 60 [v, .v (.int .i64 k)] H (fun u H' => u = .v (.int .i64 (k + cntL xs)) ∧ H' = H) := by
  refine acallw Tryz.func60 rfl (by kernel_rfl) (by kernel_rfl) fun hc hw => ?_
  have hb := ha.2.1; simp only [big, putL_length] at hb
  have hl := ha.slLen
  rw [putL_length] at hl
  have hlen := putL_length xs k
  repeat' (first | simp -implicitDefEqProofs only [go_sem])
  refine acode_while (fun i : Nat => [(0, v), (1, .v (.int .i64 (k + cntL (xs.take i)))), (5, .v (.int .i64 i))]) (fun i H' => H' = H ∧ i ≤ xs.length) (fun i => xs.length - i) 0 ⟨rfl, by omega⟩ ?_ (by simp only [frOk, go_sem]; simp [cntL])
  rintro i _ ⟨rfl, hi⟩
  have hc2 := cntL_take_le xs i
  rcases Nat.lt_or_ge i xs.length with hlt | hge
  · have hc := cntL_take hlt
    have hc2 := cntL_take_le xs (i + 1)
    have hc3 : Mk.cnt xs[i] = 10 := rfl
    have hlp : i < (putL xs k).length := by rw [putL_length]; exact hlt
    have hg : (putL xs k)[i] = ⟨mtext (k + (cntL (xs.take i) : Int)), k + (cntL (xs.take i) : Int) + 1, k + (cntL (xs.take i) : Int) + 1 + 1, decide ((k + (cntL (xs.take i) : Int) + 1 + 1 + 1) % 3 = 0), k + (cntL (xs.take i) : Int) + 1 + 1 + 1 + 1, k + (cntL (xs.take i) : Int) + 1 + 1 + 1 + 1 + 1, k + (cntL (xs.take i) : Int) + 1 + 1 + 1 + 1 + 1 + 1, k + (cntL (xs.take i) : Int) + 1 + 1 + 1 + 1 + 1 + 1 + 1, k + (cntL (xs.take i) : Int) + 1 + 1 + 1 + 1 + 1 + 1 + 1 + 1, k + (cntL (xs.take i) : Int) + 1 + 1 + 1 + 1 + 1 + 1 + 1 + 1 + 1⟩ := by
      have := putL_get xs k i hlt
      rw [List.getElem?_eq_getElem hlp] at this
      exact Option.some.inj this
    generalize hkk : k + (cntL (xs.take i) : Int) = kk at *
    repeat' (first | simp -implicitDefEqProofs only [go_sem] | (rw [hg]) | (simp -implicitDefEqProofs (disch := omega) only [wrap_in, Int.tmod_eq_emod_of_nonneg]) | refine ACallK.eq (markText_ok _ _ _ (by omega)) ?_ | refine acond_decT (by omega) ?_ | refine abi_len_sl' (by assumption) ?_ | refine aixs_sln (by assumption) ?_ | refine afa_sl (by assumption) ?_ | (refine aK_sl (by assumption) (by omega) ?_; first | rintro _ ⟨rfl, _⟩ | (intro _ hx; obtain ⟨_, rfl, _, _⟩ := EvD.out hx) | (intro _ hx; obtain ⟨_, _, rfl, _, _, _⟩ := JobD.out hx) | rintro _ ⟨_, rfl, _⟩) | ((with_reducible refine adraw_plan [(0, []), (1, []), (2, []), (3, []), (4, []), (5, []), (6, [0, 1, 2, 3, 4]), (7, [])] ?_ ?_ ?_); (· kernel_rfl); (· decide +kernel)) | (with_reducible refine And.intro ?_ ?_))
    all_goals first | exact back (i + 1) (by omega) (by omega) (by simp only [frOk, go_sem]; exact ⟨iv (by omega), iv (by omega)⟩) | trace_state
  · repeat' (first | simp -implicitDefEqProofs only [go_sem] | refine acond_decF (by omega) ?_ | refine abi_len_sl' (by assumption) ?_ | refine retK_eq ?_)
    rw [List.take_of_length_le hge]
end Go.Proofs.YtipfnhfcoolhaaaGreat.Aw
end
section
namespace Go.Proofs.YtipfnhfcoolhaaaGreat.Aw
open Go Go.RowKit
set_option maxRecDepth 100000
set_option maxHeartbeats 2000000
attribute [-go_sem] wr_eq
theorem markKRowS_ok (W0 : World) (v : AV) (xs : List KRowD) (k : Int) (S : List Nat) (H : AH) (ho : OwnS H S v xs) (hn : S.Nodup) (h0 : 0 < k) (h1 : k + cntL xs ≤ 4611686018427387904) :
    ACalls Tryz.prog W0 57 [v, .v (.int .i64 k)] H (fun u H' => u = .v (.int .i64 (k + cntL xs)) ∧ Chg S H H' ∧ OwnS H' S v (putL xs k)) := by
  refine acallw Tryz.func57 rfl (by kernel_rfl) (by kernel_rfl) fun hc hw => ?_
  have ha := ho.slr (W0 := W0)
  have hb := ha.2.1; simp only [big] at hb
  repeat' (first | simp -implicitDefEqProofs only [go_sem] | refine acond_dec (fun _ => ?_) (fun _ => ?_) | refine acond_ndec (fun _ => ?_) (fun _ => ?_) | refine agrd_dec (fun _ => ?_) (fun _ => ?_) | refine agrd_decf (fun _ => ?_) (fun _ => ?_) | refine agrd_ndec (fun _ => ?_) (fun _ => ?_) | refine agrd_ndecf (fun _ => ?_) (fun _ => ?_) | refine abi_len_sl' (by assumption) ?_ | refine aixs_sln (by assumption) ?_ | refine afa_sl (by assumption) ?_ | (refine aK_sl (by assumption) (by omega) ?_; first | rintro _ ⟨rfl, _⟩ | (intro _ hx; obtain ⟨_, rfl, _, _⟩ := EvD.out hx) | (intro _ hx; obtain ⟨_, _, rfl, _, _, _⟩ := JobD.out hx) | rintro _ ⟨_, rfl, _⟩) | rw [SlR.one (by assumption)] | rw [SlR.leaf (by assumption)] | simp -implicitDefEqProofs (disch := omega) only [wrap_in, u8_small, Int.tmod_eq_emod_of_nonneg, Int.tdiv_eq_ediv_of_nonneg] | refine aK_sub (by assumption) ?_ | refine aix_strn (fun _ _ => ?_) | ((with_reducible refine adraw_seq ?_ ?_ ?_); (· kernel_rfl); (· decide +kernel)) | simp -implicitDefEqProofs only [go_sem, slCells_own, aapp_own] | refine And.intro (by omega) (And.intro (by omega) ?_) | refine acond_split (fun _ => ?_) (fun _ => ?_) | refine agrd_bt (fun _ => ?_) (fun _ => ?_) | refine agrd_bf (fun _ => ?_) (fun _ => ?_) | refine retK_eq ?_ | refine retK_back (by assumption) ?_ | refine retK_eq2 ?_ | refine retK_back2 (by assumption) ?_)
  refine acode_while (fun i : Nat => [(0, v), (1, .v (.int .i64 (k + cntL (xs.take i)))), (5, .v (.int .i64 i))]) (fun i H' => Chg S H H' ∧ i ≤ xs.length ∧ OwnS H' S v (mkTo xs k i)) (fun i => xs.length - i) 0 ⟨Chg.refl _ _, by omega, by rw [mkTo_zero]; exact ho⟩ ?_ (by simp only [frOk, go_sem]; simp [cntL])
  rintro i H' ⟨hC, hi, hO⟩
  have hl := (hO.slr (W0 := W0)).slLen
  rw [mkTo_length] at hl
  have hc2 := cntL_take_le xs i
  rcases Nat.lt_or_ge i xs.length with hlt | hge
  · obtain ⟨b, o, pre, mid, post, S1, S2, S3, rfl, hB, hp, hm, hS, hown, put⟩ := hO.get i (by rw [mkTo_length]; exact hlt)
    rw [mkTo_get _ _ _ hlt] at hown
    simp only [mkTo_length] at *
    obtain ⟨rfl, rfl, f0, f1⟩ := hown
    simp only [Ob.n, Nat.mul_one, List.cons_append, List.nil_append] at hB hp
    have hc := cntL_take hlt
    have hc2 := cntL_take_le xs (i + 1)
    have hc3 : Mk.cnt xs[i] = 2 := rfl
    have hne := foc_ne hS hn
    have hbS : b ∈ S := by rw [hS]; exact List.mem_cons_self ..
    generalize hkk : k + (cntL (xs.take i) : Int) = kk at *
    repeat' (first | simp -implicitDefEqProofs only [go_sem] | (simp -implicitDefEqProofs (disch := omega) only [hB, blk_set_self, Int.toNat_natCast, wr_preA hp, wr_pre0 hp, wr_succ, wr_zero, wr_none, set_set, List.length_append, List.length_cons]) | refine ACallK.eq (markText_ok _ _ _ (by omega)) ?_ | refine acond_decF (by omega) ?_ | refine acond_decT (by omega) ?_ | refine acond_ndecF (by omega) ?_ | refine acond_ndecT (by omega) ?_ | refine acond_dec (fun _ => ?_) (fun _ => ?_) | refine acond_ndec (fun _ => ?_) (fun _ => ?_) | refine agrd_dec (fun _ => ?_) (fun _ => ?_) | refine agrd_decf (fun _ => ?_) (fun _ => ?_) | refine agrd_ndec (fun _ => ?_) (fun _ => ?_) | refine agrd_ndecf (fun _ => ?_) (fun _ => ?_) | refine abi_len_sl' (by assumption) ?_ | refine aixs_sln (by assumption) ?_ | refine afa_sl (by assumption) ?_ | (refine aK_sl (by assumption) (by omega) ?_; first | rintro _ ⟨rfl, _⟩ | (intro _ hx; obtain ⟨_, rfl, _, _⟩ := EvD.out hx) | (intro _ hx; obtain ⟨_, _, rfl, _, _, _⟩ := JobD.out hx) | rintro _ ⟨_, rfl, _⟩) | rw [SlR.one (by assumption)] | rw [SlR.leaf (by assumption)] | simp -implicitDefEqProofs (disch := omega) only [wrap_in, u8_small, Int.tmod_eq_emod_of_nonneg, Int.tdiv_eq_ediv_of_nonneg] | refine aK_sub (by assumption) ?_ | refine aix_strn (fun _ _ => ?_) | ((with_reducible refine adraw_seq ?_ ?_ ?_); (· kernel_rfl); (· decide +kernel)) | simp -implicitDefEqProofs only [go_sem, slCells_own, aapp_own] | (with_reducible refine And.intro (by omega) ?_) | refine And.intro (by omega) (And.intro (by omega) ?_) | refine acond_split (fun _ => ?_) (fun _ => ?_) | refine agrd_bt (fun _ => ?_) (fun _ => ?_) | refine agrd_bf (fun _ => ?_) (fun _ => ?_) | refine retK_eq ?_ | refine retK_back (by assumption) ?_ | refine retK_eq2 ?_ | refine retK_back2 (by assumption) ?_ | (with_reducible refine And.intro ?_ ?_))
    refine back (i + 1) ⟨hC.set hbS _, by omega, ?_⟩ (by omega) (by simp only [frOk, go_sem]; exact ⟨iv (by omega), iv (by omega)⟩)
    rw [← mkTo_set xs k i hlt, hkk, hS]
    exact put _ [] [_, _] _ (blk_set_self _ _ _) (fun x hx => blk_set_ne _ (hne x hx) _) ⟨rfl, rfl, by have := mtext_size; simp only [big]; exact Nat.le_trans (this _) (by decide), by simp only [inI64, Mk.put]; omega⟩
  · repeat' (first | simp -implicitDefEqProofs only [go_sem] | refine acond_decF (by omega) ?_ | refine acond_decT (by omega) ?_ | refine acond_ndecF (by omega) ?_ | refine acond_ndecT (by omega) ?_ | refine acond_dec (fun _ => ?_) (fun _ => ?_) | refine acond_ndec (fun _ => ?_) (fun _ => ?_) | refine agrd_dec (fun _ => ?_) (fun _ => ?_) | refine agrd_decf (fun _ => ?_) (fun _ => ?_) | refine agrd_ndec (fun _ => ?_) (fun _ => ?_) | refine agrd_ndecf (fun _ => ?_) (fun _ => ?_) | refine abi_len_sl' (by assumption) ?_ | refine aixs_sln (by assumption) ?_ | refine afa_sl (by assumption) ?_ | (refine aK_sl (by assumption) (by omega) ?_; first | rintro _ ⟨rfl, _⟩ | (intro _ hx; obtain ⟨_, rfl, _, _⟩ := EvD.out hx) | (intro _ hx; obtain ⟨_, _, rfl, _, _, _⟩ := JobD.out hx) | rintro _ ⟨_, rfl, _⟩) | rw [SlR.one (by assumption)] | rw [SlR.leaf (by assumption)] | simp -implicitDefEqProofs (disch := omega) only [wrap_in, u8_small, Int.tmod_eq_emod_of_nonneg, Int.tdiv_eq_ediv_of_nonneg] | refine aK_sub (by assumption) ?_ | refine aix_strn (fun _ _ => ?_) | ((with_reducible refine adraw_seq ?_ ?_ ?_); (· kernel_rfl); (· decide +kernel)) | simp -implicitDefEqProofs only [go_sem, slCells_own, aapp_own] | (with_reducible refine And.intro (by omega) ?_) | refine And.intro (by omega) (And.intro (by omega) ?_) | refine acond_split (fun _ => ?_) (fun _ => ?_) | refine agrd_bt (fun _ => ?_) (fun _ => ?_) | refine agrd_bf (fun _ => ?_) (fun _ => ?_) | refine retK_eq ?_ | refine retK_back (by assumption) ?_ | refine retK_eq2 ?_ | refine retK_back2 (by assumption) ?_ | (with_reducible refine And.intro ?_ ?_))
    rw [List.take_of_length_le hge]
    exact retK_one ⟨rfl, hC, by rw [← mkTo_all xs k hge]; exact hO⟩
theorem heldKRowS_ok (W0 : World) (v : AV) (xs : List KRowD) (k : Int) (H : AH) (ha : SlR W0 H v (putL xs k)) (h0 : 0 < k) (h1 : k + cntL xs ≤ 4611686018427387904) :
    ACalls Tryz.prog W0 59 [v, .v (.int .i64 k)] H (fun u H' => u = .v (.int .i64 (k + cntL xs)) ∧ H' = H) := by
  refine acallw Tryz.func59 rfl (by kernel_rfl) (by kernel_rfl) fun hc hw => ?_
  have hb := ha.2.1; simp only [big, putL_length] at hb
  have hl := ha.slLen
  rw [putL_length] at hl
  have hlen := putL_length xs k
  repeat' (first | simp -implicitDefEqProofs only [go_sem] | refine acond_dec (fun _ => ?_) (fun _ => ?_) | refine acond_ndec (fun _ => ?_) (fun _ => ?_) | refine agrd_dec (fun _ => ?_) (fun _ => ?_) | refine agrd_decf (fun _ => ?_) (fun _ => ?_) | refine agrd_ndec (fun _ => ?_) (fun _ => ?_) | refine agrd_ndecf (fun _ => ?_) (fun _ => ?_) | refine abi_len_sl' (by assumption) ?_ | refine aixs_sln (by assumption) ?_ | refine afa_sl (by assumption) ?_ | (refine aK_sl (by assumption) (by omega) ?_; first | rintro _ ⟨rfl, _⟩ | (intro _ hx; obtain ⟨_, rfl, _, _⟩ := EvD.out hx) | (intro _ hx; obtain ⟨_, _, rfl, _, _, _⟩ := JobD.out hx) | rintro _ ⟨_, rfl, _⟩) | rw [SlR.one (by assumption)] | rw [SlR.leaf (by assumption)] | simp -implicitDefEqProofs (disch := omega) only [wrap_in, u8_small, Int.tmod_eq_emod_of_nonneg, Int.tdiv_eq_ediv_of_nonneg] | refine aK_sub (by assumption) ?_ | refine aix_strn (fun _ _ => ?_) | ((with_reducible refine adraw_seq ?_ ?_ ?_); (· kernel_rfl); (· decide +kernel)) | simp -implicitDefEqProofs only [go_sem, slCells_own, aapp_own] | ((with_reducible refine adraw_plan [(0, []), (1, []), (2, []), (3, []), (4, []), (5, []), (6, [0, 1, 2, 3, 4]), (7, [])] ?_ ?_ ?_); (· kernel_rfl); (· decide +kernel)) | refine And.intro (by omega) (And.intro (by omega) ?_) | refine acond_split (fun _ => ?_) (fun _ => ?_) | refine agrd_bt (fun _ => ?_) (fun _ => ?_) | refine agrd_bf (fun _ => ?_) (fun _ => ?_) | refine retK_eq ?_ | refine retK_back (by assumption) ?_ | refine retK_eq2 ?_ | refine retK_back2 (by assumption) ?_)
  refine acode_while (fun i : Nat => [(0, v), (1, .v (.int .i64 (k + cntL (xs.take i)))), (5, .v (.int .i64 i))]) (fun i H' => H' = H ∧ i ≤ xs.length) (fun i => xs.length - i) 0 ⟨rfl, by omega⟩ ?_ (by simp only [frOk, go_sem]; simp [cntL])
  rintro i _ ⟨rfl, hi⟩
  have hc2 := cntL_take_le xs i
  rcases Nat.lt_or_ge i xs.length with hlt | hge
  · have hc := cntL_take hlt
    have hc2 := cntL_take_le xs (i + 1)
    have hc3 : Mk.cnt xs[i] = 2 := rfl
    have hlp : i < (putL xs k).length := by rw [putL_length]; exact hlt
    have hg : (putL xs k)[i] = ⟨mtext (k + (cntL (xs.take i) : Int)), k + (cntL (xs.take i) : Int) + 1⟩ := by
      have := putL_get xs k i hlt
      rw [List.getElem?_eq_getElem hlp] at this
      exact Option.some.inj this
    generalize hkk : k + (cntL (xs.take i) : Int) = kk at *
    repeat' (first | simp -implicitDefEqProofs only [go_sem] | (rw [hg]) | (simp -implicitDefEqProofs (disch := omega) only [wrap_in, Int.tmod_eq_emod_of_nonneg]) | refine ACallK.eq (markText_ok _ _ _ (by omega)) ?_ | refine acond_decF (by omega) ?_ | refine acond_decT (by omega) ?_ | refine acond_ndecF (by omega) ?_ | refine acond_ndecT (by omega) ?_ | refine acond_dec (fun _ => ?_) (fun _ => ?_) | refine acond_ndec (fun _ => ?_) (fun _ => ?_) | refine agrd_dec (fun _ => ?_) (fun _ => ?_) | refine agrd_decf (fun _ => ?_) (fun _ => ?_) | refine agrd_ndec (fun _ => ?_) (fun _ => ?_) | refine agrd_ndecf (fun _ => ?_) (fun _ => ?_) | refine abi_len_sl' (by assumption) ?_ | refine aixs_sln (by assumption) ?_ | refine afa_sl (by assumption) ?_ | (refine aK_sl (by assumption) (by omega) ?_; first | rintro _ ⟨rfl, _⟩ | (intro _ hx; obtain ⟨_, rfl, _, _⟩ := EvD.out hx) | (intro _ hx; obtain ⟨_, _, rfl, _, _, _⟩ := JobD.out hx) | rintro _ ⟨_, rfl, _⟩) | rw [SlR.one (by assumption)] | rw [SlR.leaf (by assumption)] | simp -implicitDefEqProofs (disch := omega) only [wrap_in, u8_small, Int.tmod_eq_emod_of_nonneg, Int.tdiv_eq_ediv_of_nonneg] | refine aK_sub (by assumption) ?_ | refine aix_strn (fun _ _ => ?_) | ((with_reducible refine adraw_seq ?_ ?_ ?_); (· kernel_rfl); (· decide +kernel)) | simp -implicitDefEqProofs only [go_sem, slCells_own, aapp_own] | (with_reducible refine And.intro (by omega) ?_) | ((with_reducible refine adraw_plan [(0, []), (1, []), (2, []), (3, []), (4, []), (5, []), (6, [0, 1, 2, 3, 4]), (7, [])] ?_ ?_ ?_); (· kernel_rfl); (· decide +kernel)) | refine And.intro (by omega) (And.intro (by omega) ?_) | refine acond_split (fun _ => ?_) (fun _ => ?_) | refine agrd_bt (fun _ => ?_) (fun _ => ?_) | refine agrd_bf (fun _ => ?_) (fun _ => ?_) | refine retK_eq ?_ | refine retK_back (by assumption) ?_ | refine retK_eq2 ?_ | refine retK_back2 (by assumption) ?_ | (with_reducible refine And.intro ?_ ?_))
    all_goals first | exact back (i + 1) (by omega) (by omega) (by simp only [frOk, go_sem]; exact ⟨iv (by omega), iv (by omega)⟩) | trace_state
  · repeat' (first | simp -implicitDefEqProofs only [go_sem] | refine acond_decF (by omega) ?_ | refine acond_decT (by omega) ?_ | refine acond_ndecF (by omega) ?_ | refine acond_ndecT (by omega) ?_ | refine acond_dec (fun _ => ?_) (fun _ => ?_) | refine acond_ndec (fun _ => ?_) (fun _ => ?_) | refine agrd_dec (fun _ => ?_) (fun _ => ?_) | refine agrd_decf (fun _ => ?_) (fun _ => ?_) | refine agrd_ndec (fun _ => ?_) (fun _ => ?_) | refine agrd_ndecf (fun _ => ?_) (fun _ => ?_) | refine abi_len_sl' (by assumption) ?_ | refine aixs_sln (by assumption) ?_ | refine afa_sl (by assumption) ?_ | (refine aK_sl (by assumption) (by omega) ?_; first | rintro _ ⟨rfl, _⟩ | (intro _ hx; obtain ⟨_, rfl, _, _⟩ := EvD.out hx) | (intro _ hx; obtain ⟨_, _, rfl, _, _, _⟩ := JobD.out hx) | rintro _ ⟨_, rfl, _⟩) | rw [SlR.one (by assumption)] | rw [SlR.leaf (by assumption)] | simp -implicitDefEqProofs (disch := omega) only [wrap_in, u8_small, Int.tmod_eq_emod_of_nonneg, Int.tdiv_eq_ediv_of_nonneg] | refine aK_sub (by assumption) ?_ | refine aix_strn (fun _ _ => ?_) | ((with_reducible refine adraw_seq ?_ ?_ ?_); (· kernel_rfl); (· decide +kernel)) | simp -implicitDefEqProofs only [go_sem, slCells_own, aapp_own] | (with_reducible refine And.intro (by omega) ?_) | ((with_reducible refine adraw_plan [(0, []), (1, []), (2, []), (3, []), (4, []), (5, []), (6, [0, 1, 2, 3, 4]), (7, [])] ?_ ?_ ?_); (· kernel_rfl); (· decide +kernel)) | refine And.intro (by omega) (And.intro (by omega) ?_) | refine acond_split (fun _ => ?_) (fun _ => ?_) | refine agrd_bt (fun _ => ?_) (fun _ => ?_) | refine agrd_bf (fun _ => ?_) (fun _ => ?_) | refine retK_eq ?_ | refine retK_back (by assumption) ?_ | refine retK_eq2 ?_ | refine retK_back2 (by assumption) ?_ | (with_reducible refine And.intro ?_ ?_))
    rw [List.take_of_length_le hge]
end Go.Proofs.YtipfnhfcoolhaaaGreat.Aw
end
section
namespace Go.Proofs.YtipfnhfcoolhaaaGreat.Aw
open Go Go.RowKit
set_option maxRecDepth 100000
set_option maxHeartbeats 2000000
attribute [-go_sem] wr_eq
theorem markModel_ok (W0 : World) (cs : List AV) (x : ModelD) (k : Int) (S : List Nat) (H : AH) (ho : Own.own H S cs x) (hn : S.Nodup) (h0 : 0 < k) (h1 : k + Mk.cnt x ≤ 4611686018427387904) :
    ACalls Tryz.prog W0 15 [.agg cs, .v (.int .i64 k)] H (fun u H' => u = .v (.int .i64 (k + Mk.cnt x)) ∧ Upd S H H' S ∧ Own.own H' S cs (Mk.put x k)) := by
  obtain ⟨v_keys, v_rows, S_keys, S_rows, rfl, rfl, f0, f1⟩ := ho
  have hk : Mk.cnt x = cntL x.keys + cntL x.rows := rfl
  refine acallw Tryz.func15 rfl (by kernel_rfl) (by kernel_rfl) fun hc hw => ?_
  obtain ⟨n0, m0, d0, e0⟩ := nd_two hn
  repeat' (first | simp -implicitDefEqProofs only [go_sem] | refine acond_decF (by omega) ?_ | refine acond_decT (by omega) ?_ | refine acond_ndecF (by omega) ?_ | refine acond_ndecT (by omega) ?_ | refine acond_dec (fun _ => ?_) (fun _ => ?_) | refine acond_ndec (fun _ => ?_) (fun _ => ?_) | refine agrd_dec (fun _ => ?_) (fun _ => ?_) | refine agrd_decf (fun _ => ?_) (fun _ => ?_) | refine agrd_ndec (fun _ => ?_) (fun _ => ?_) | refine agrd_ndecf (fun _ => ?_) (fun _ => ?_) | refine abi_len_sl' (by assumption) ?_ | refine aixs_sln (by assumption) ?_ | refine afa_sl (by assumption) ?_ | (refine aK_sl (by assumption) (by omega) ?_; first | rintro _ ⟨rfl, _⟩ | (intro _ hx; obtain ⟨_, rfl, _, _⟩ := EvD.out hx) | (intro _ hx; obtain ⟨_, _, rfl, _, _, _⟩ := JobD.out hx) | rintro _ ⟨_, rfl, _⟩) | rw [SlR.one (by assumption)] | rw [SlR.leaf (by assumption)] | simp -implicitDefEqProofs (disch := omega) only [wrap_in, u8_small, Int.tmod_eq_emod_of_nonneg, Int.tdiv_eq_ediv_of_nonneg] | refine aK_sub (by assumption) ?_ | refine aix_strn (fun _ _ => ?_) | ((with_reducible refine adraw_seq ?_ ?_ ?_); (· kernel_rfl); (· decide +kernel)) | simp -implicitDefEqProofs only [go_sem, slCells_own, aapp_own] | (with_reducible refine And.intro (by omega) ?_) | refine And.intro (by omega) (And.intro (by omega) ?_) | refine acond_split (fun _ => ?_) (fun _ => ?_) | refine agrd_bt (fun _ => ?_) (fun _ => ?_) | refine agrd_bf (fun _ => ?_) (fun _ => ?_) | refine retK_eq ?_ | refine retK_back (by assumption) ?_ | refine retK_eq2 ?_ | refine retK_back2 (by assumption) ?_ | (with_reducible refine And.intro ?_ ?_))
  refine ACallK.of (markKRowS_ok _ v_keys x.keys _ S_keys _ (f0.sub (by repeat (first | exact Sub.refl _ | assumption | refine Sub.new (by assumption) ?_ _ _ | refine Sub.kill_new (by assumption) ?_ _ _ | refine Sub.trans ?_ (by assumption)))) n0 (by omega) (by omega)) ?_
  rintro _ G0 ⟨rfl, g0, w0⟩
  have a0 := (g0.2 H.nxt (fun hm => absurd (hw.lt' (f0.isin _ hm)) (Nat.lt_irrefl _))).trans (blk_new_self _ _ _)
  repeat' (first | simp -implicitDefEqProofs only [go_sem] | (simp only [a0]) | refine acond_decF (by omega) ?_ | refine acond_decT (by omega) ?_ | refine acond_ndecF (by omega) ?_ | refine acond_ndecT (by omega) ?_ | refine acond_dec (fun _ => ?_) (fun _ => ?_) | refine acond_ndec (fun _ => ?_) (fun _ => ?_) | refine agrd_dec (fun _ => ?_) (fun _ => ?_) | refine agrd_decf (fun _ => ?_) (fun _ => ?_) | refine agrd_ndec (fun _ => ?_) (fun _ => ?_) | refine agrd_ndecf (fun _ => ?_) (fun _ => ?_) | refine abi_len_sl' (by assumption) ?_ | refine aixs_sln (by assumption) ?_ | refine afa_sl (by assumption) ?_ | (refine aK_sl (by assumption) (by omega) ?_; first | rintro _ ⟨rfl, _⟩ | (intro _ hx; obtain ⟨_, rfl, _, _⟩ := EvD.out hx) | (intro _ hx; obtain ⟨_, _, rfl, _, _, _⟩ := JobD.out hx) | rintro _ ⟨_, rfl, _⟩) | rw [SlR.one (by assumption)] | rw [SlR.leaf (by assumption)] | simp -implicitDefEqProofs (disch := omega) only [wrap_in, u8_small, Int.tmod_eq_emod_of_nonneg, Int.tdiv_eq_ediv_of_nonneg] | refine aK_sub (by assumption) ?_ | refine aix_strn (fun _ _ => ?_) | ((with_reducible refine adraw_seq ?_ ?_ ?_); (· kernel_rfl); (· decide +kernel)) | simp -implicitDefEqProofs only [go_sem, slCells_own, aapp_own] | (with_reducible refine And.intro (by omega) ?_) | refine And.intro (by omega) (And.intro (by omega) ?_) | refine acond_split (fun _ => ?_) (fun _ => ?_) | refine agrd_bt (fun _ => ?_) (fun _ => ?_) | refine agrd_bf (fun _ => ?_) (fun _ => ?_) | refine retK_eq ?_ | refine retK_back (by assumption) ?_ | refine retK_eq2 ?_ | refine retK_back2 (by assumption) ?_ | (with_reducible refine And.intro ?_ ?_))
  refine ACallK.of (markRowS_ok _ v_rows x.rows _ S_rows _ ((f1.sub (by repeat (first | exact Sub.refl _ | assumption | refine Sub.new (by assumption) ?_ _ _ | refine Sub.kill_new (by assumption) ?_ _ _ | refine Sub.trans ?_ (by assumption)))).chg g0 (fun x hx => e0 x (hx))) m0 (by omega) (by omega)) ?_
  rintro _ G1 ⟨rfl, g1, w1⟩
  have a1 := (g1.2 H.nxt (fun hm => absurd (hw.lt' (f1.isin _ hm)) (Nat.lt_irrefl _))).trans a0
  repeat' (first | simp -implicitDefEqProofs only [go_sem] | refine acond_decF (by omega) ?_ | refine acond_decT (by omega) ?_ | refine acond_ndecF (by omega) ?_ | refine acond_ndecT (by omega) ?_ | refine acond_dec (fun _ => ?_) (fun _ => ?_) | refine acond_ndec (fun _ => ?_) (fun _ => ?_) | refine agrd_dec (fun _ => ?_) (fun _ => ?_) | refine agrd_decf (fun _ => ?_) (fun _ => ?_) | refine agrd_ndec (fun _ => ?_) (fun _ => ?_) | refine agrd_ndecf (fun _ => ?_) (fun _ => ?_) | refine abi_len_sl' (by assumption) ?_ | refine aixs_sln (by assumption) ?_ | refine afa_sl (by assumption) ?_ | (refine aK_sl (by assumption) (by omega) ?_; first | rintro _ ⟨rfl, _⟩ | (intro _ hx; obtain ⟨_, rfl, _, _⟩ := EvD.out hx) | (intro _ hx; obtain ⟨_, _, rfl, _, _, _⟩ := JobD.out hx) | rintro _ ⟨_, rfl, _⟩) | rw [SlR.one (by assumption)] | rw [SlR.leaf (by assumption)] | simp -implicitDefEqProofs (disch := omega) only [wrap_in, u8_small, Int.tmod_eq_emod_of_nonneg, Int.tdiv_eq_ediv_of_nonneg] | refine aK_sub (by assumption) ?_ | refine aix_strn (fun _ _ => ?_) | ((with_reducible refine adraw_seq ?_ ?_ ?_); (· kernel_rfl); (· decide +kernel)) | simp -implicitDefEqProofs only [go_sem, slCells_own, aapp_own] | (with_reducible refine And.intro (by omega) ?_) | refine And.intro (by omega) (And.intro (by omega) ?_) | refine acond_split (fun _ => ?_) (fun _ => ?_) | refine agrd_bt (fun _ => ?_) (fun _ => ?_) | refine agrd_bf (fun _ => ?_) (fun _ => ?_) | refine retK_eq ?_ | refine retK_back (by assumption) ?_ | refine retK_eq2 ?_ | refine retK_back2 (by assumption) ?_ | (with_reducible refine And.intro ?_ ?_))
  refine retK_one ⟨iv (by omega), (((g0.sub (fun x hx => List.mem_append_left _ hx)).trans (g1.sub (fun x hx => List.mem_append_right _ (hx)))).upd hn).start (by repeat (first | exact Sub.refl _ | assumption | refine Sub.new (by assumption) ?_ _ _ | refine Sub.kill_new (by assumption) ?_ _ _ | refine Sub.trans ?_ (by assumption))), ?_⟩
  refine ⟨v_keys, v_rows, S_keys, S_rows, rfl, rfl, by simpa only [Mk.put, Int.add_assoc, Int.natCast_add] using (w0).chg g1 (fun x hx hm => d0 x hx (hm)), by simpa only [Mk.put, Int.add_assoc, Int.natCast_add] using w1⟩
theorem heldModel_ok (W0 : World) (cs : List AV) (x : ModelD) (k : Int) (H : AH) (ha : Ob.rep W0 H cs (Mk.put x k)) (h0 : 0 < k) (h1 : k + Mk.cnt x ≤ 4611686018427387904) :
    ACalls Tryz.prog W0 16 [.agg cs, .v (.int .i64 k)] H (fun u H' => u = .v (.int .i64 (k + Mk.cnt x)) ∧ H' = H) := by
  obtain ⟨v_keys, v_rows, rfl, f0, f1⟩ := ha
  have hk : Mk.cnt x = cntL x.keys + cntL x.rows := rfl
  refine acallw Tryz.func16 rfl (by kernel_rfl) (by kernel_rfl) fun hc hw => ?_
  simp only [Mk.put] at f0 f1
  repeat' (first | simp -implicitDefEqProofs only [go_sem] | (refine ACallK.eq (heldKRowS_ok _ _ x.keys _ _ (SlR.sub' f0) (by omega) (by omega)) ?_) | (refine ACallK.eq (heldRowS_ok _ _ x.rows _ _ (SlR.sub' f1) (by omega) (by omega)) ?_) | refine acond_decF (by omega) ?_ | refine acond_decT (by omega) ?_ | refine acond_ndecF (by omega) ?_ | refine acond_ndecT (by omega) ?_ | refine acond_dec (fun _ => ?_) (fun _ => ?_) | refine acond_ndec (fun _ => ?_) (fun _ => ?_) | refine agrd_dec (fun _ => ?_) (fun _ => ?_) | refine agrd_decf (fun _ => ?_) (fun _ => ?_) | refine agrd_ndec (fun _ => ?_) (fun _ => ?_) | refine agrd_ndecf (fun _ => ?_) (fun _ => ?_) | refine abi_len_sl' (by assumption) ?_ | refine aixs_sln (by assumption) ?_ | refine afa_sl (by assumption) ?_ | (refine aK_sl (by assumption) (by omega) ?_; first | rintro _ ⟨rfl, _⟩ | (intro _ hx; obtain ⟨_, rfl, _, _⟩ := EvD.out hx) | (intro _ hx; obtain ⟨_, _, rfl, _, _, _⟩ := JobD.out hx) | rintro _ ⟨_, rfl, _⟩) | rw [SlR.one (by assumption)] | rw [SlR.leaf (by assumption)] | simp -implicitDefEqProofs (disch := omega) only [wrap_in, u8_small, Int.tmod_eq_emod_of_nonneg, Int.tdiv_eq_ediv_of_nonneg] | refine aK_sub (by assumption) ?_ | refine aix_strn (fun _ _ => ?_) | ((with_reducible refine adraw_seq ?_ ?_ ?_); (· kernel_rfl); (· decide +kernel)) | simp -implicitDefEqProofs only [go_sem, slCells_own, aapp_own] | (with_reducible refine And.intro (by omega) ?_) | refine And.intro (by omega) (And.intro (by omega) ?_) | refine acond_split (fun _ => ?_) (fun _ => ?_) | refine agrd_bt (fun _ => ?_) (fun _ => ?_) | refine agrd_bf (fun _ => ?_) (fun _ => ?_) | refine retK_eq ?_ | refine retK_back (by assumption) ?_ | refine retK_eq2 ?_ | refine retK_back2 (by assumption) ?_ | (with_reducible refine And.intro ?_ ?_))
  all_goals first | exact iv (by omega) | (exfalso; omega)
end Go.Proofs.YtipfnhfcoolhaaaGreat.Aw
end
