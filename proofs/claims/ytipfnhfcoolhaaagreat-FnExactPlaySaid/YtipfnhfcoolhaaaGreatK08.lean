/- Parts of a proof: Gb Gd. -/
import Derived.Test.YtipfnhfcoolhaaaGreatK07
set_option linter.unusedVariables false
set_option linter.unusedSimpArgs false
section
namespace Go.Proofs.YtipfnhfcoolhaaaGreat.Aw
open Go Go.RowKit
set_option maxRecDepth 100000
set_option maxHeartbeats 2000000
attribute [-go_sem] wr_eq
theorem probe_ok (W0 : World) (bw bj oj t : Nat) (vj vt : AV) (pre post : List AV) (w : WorldD) (j : JobD) (S : List Nat) (H : AH) (hp : MvP H S bw bj oj t vj vt pre post w j) (hok : cellsOk w.cells = true) (hkey : keyOk j.op.key = true) (hk : 0 ≤ j.k ∧ j.k ≤ 3) (hkind : j.op.kind = 1 ∨ j.op.kind = 2) :
    ACalls Tryz.prog W0 170 [mvA bw bj oj t] H (fun r H' => r = .tup [] ∧ MvR H S bw bj vj vt pre post (probeD w t j) H') := by
  refine acallw Tryz.func170 rfl (by kernel_rfl) (by kernel_rfl) fun hc hw => ?_
  have hp0 := hp
  obtain ⟨⟨hn, vc, vl, cj, Sc, Sl, Sj, rfl, bB, jB, oc, ol, oj_⟩, hll, hj, ht, hnw, htt, hpl⟩ := hp
  obtain ⟨vk, vr, Sk, Sr, rfl, rfl, f0, f1, f2, f3, f4, f5, f6, f7, f8, f9, f10, f11, f12, f13, f14, f15, f16⟩ := oj_
  have lc := oc.leaf; have cc := oc.one
  have ll := ol.leaf; have cl := ol.one
  have lk := f15.leaf; have ck := f15.one
  have lr := f16.leaf; have cr := f16.one
  obtain ⟨lj, cj⟩ := hj
  obtain ⟨lt, ct⟩ := ht
  have hm0 : Mv H (bw :: bj :: (Sc ++ (Sl ++ (Sk ++ Sr)))) bw bj vj vt pre post w j := ⟨hn, vc, vl, _, Sc, Sl, Sk ++ Sr, rfl, bB, jB, oc, ol, vk, vr, Sk, Sr, rfl, rfl, f0, f1, f2, f3, f4, f5, f6, f7, f8, f9, f10, f11, f12, f13, f14, f15, f16⟩
  have hnS : ∀ b ∈ bw :: bj :: (Sc ++ (Sl ++ (Sk ++ Sr))), b < H.nxt := fun b hb => hw.lt' (hm0.isin b hb)
  obtain ⟨hnw1, hnj1, hne, hne', hU, nwU, njU, mC, mL, mK, mR, z0, z1, z2, y0, z0', y0', y1, y2⟩ := mvf hn hnS
  simp only [wcs] at bB
  simp only [List.cons_append, List.nil_append] at jB
  have hq := probe_bd hkey hk.1 hk.2
  have hu := oc.slr (W0 := W0)
  have hlen := cellsOk_len hok
  have hI := getD_I hu (3 + probe j.op.key j.k).toNat
  have htag : probeTag w j = w.cells.getD (3 + probe j.op.key j.k).toNat 0 := by unfold probeTag cget; rw [keyCell_in hq]
  generalize hqq : probe j.op.key j.k = q at *
  generalize htg : w.cells.getD (3 + q).toNat 0 = tag at *
  have hd : ∀ {p : Prop} [Decidable p], p → decide p = true := fun h => decide_eq_true h
  have hf : ∀ {p : Prop} [Decidable p], ¬ p → decide p = false := fun h => decide_eq_false h
  have hug := untag_I tag
  have ek : IntKind.i64.wrap (j.k + 1) = j.k + 1 := wrap_in _ (by omega) (by omega)
  by_cases e0 : tag = 0
  · have d0 : decide (tag = 0) = true := hd e0
    rcases hkind with k1 | k1
    · have d1 : decide (j.op.kind = 2) = false := hf (by omega)
      repeat' (first | simp -implicitDefEqProofs only [go_sem] | (simp -implicitDefEqProofs (disch := omega) only [bB, jB, hne, hne', z0, z1, z2, y0, y1, y2, z0', y0', blk_set_self, wr_pre hpl, wr_pre0 hpl, drop_pre hpl, drop_pre0 hpl, lc, cc, ll, cl, lk, ck, lr, cr, lj, cj, lt, ct, wr_succ, wr_zero, wr_none, set_set, Bool.and_self, if_false, List.length_append, List.length_cons, d0, d1, if_true, if_false, Bool.false_eq_true]) | (rw [if_pos (by omega)]) | (refine ACallK.eq (Probe_impl _ _ _ _ f1) ?_; rw [hqq]) | (refine ACallK.eq (KeyCell_impl _ _ _) ?_; rw [keyCell_in hq]) | (refine ixI hu ?_) | (refine rdI hu ?_; rw [htg]) | (refine ACallK.eq (Untag_impl _ _ _ hI) ?_) | ((with_reducible refine adraw_seq ?_ ?_ ?_); (· kernel_rfl); (· decide +kernel)) | (with_reducible refine And.intro (by omega) ?_) | ((with_reducible refine adraw_plan [(0, []), (1, []), (2, []), (3, []), (4, []), (5, []), (6, [0, 1, 2, 3, 4]), (7, []), (8, []), (9, [])] ?_ ?_ ?_); (· kernel_rfl); (· decide +kernel)))
      rw [show probeD w t j = (w, { j with pc := 1 }) by unfold probeD; rw [htag, if_pos e0, if_pos k1]]
      refine retK_nil ⟨rfl, MvR.fin (j' := { j with pc := 1 }) hw hm0.in2 (Upd.refl H hn) oc ol ⟨vk, vr, Sk, Sr, rfl, rfl, f0, f1, f2, f3, f4, (by simp only [inI64]; omega), f6, f7, f8, f9, f10, f11, f12, f13, f14, f15, f16⟩ hw (fun b h1 h2 h3 => ?_) (Nat.le_succ _) ?_ ?_⟩
      · simp only [blk_set, blk_new, if_neg h2, if_neg (show ¬ b = H.nxt by omega)]
      · simp only [blk_set, blk_new, hne, z0, if_false]; exact bB
      · exact blk_set_self _ _ _
    · have d1 : decide (j.op.kind = 2) = true := hd (by omega)
      repeat' (first | simp -implicitDefEqProofs only [go_sem] | (simp -implicitDefEqProofs (disch := omega) only [bB, jB, hne, hne', z0, z1, z2, y0, y1, y2, z0', y0', blk_set_self, wr_pre hpl, wr_pre0 hpl, drop_pre hpl, drop_pre0 hpl, lc, cc, ll, cl, lk, ck, lr, cr, lj, cj, lt, ct, wr_succ, wr_zero, wr_none, set_set, Bool.and_self, if_false, List.length_append, List.length_cons, d0, d1, if_true, if_false, Bool.false_eq_true]) | (rw [if_pos (by omega)]) | (refine ACallK.eq (Probe_impl _ _ _ _ f1) ?_; rw [hqq]) | (refine ACallK.eq (KeyCell_impl _ _ _) ?_; rw [keyCell_in hq]) | (refine ixI hu ?_) | (refine rdI hu ?_; rw [htg]) | (refine ACallK.eq (Untag_impl _ _ _ hI) ?_) | ((with_reducible refine adraw_seq ?_ ?_ ?_); (· kernel_rfl); (· decide +kernel)) | ((with_reducible refine adraw_plan [(0, []), (1, []), (2, []), (3, []), (4, []), (5, []), (6, [0, 1, 2, 3, 4]), (7, []), (8, []), (9, [])] ?_ ?_ ?_); (· kernel_rfl); (· decide +kernel)))
      refine ACallK.mvr (H0 := H) (finish_ok _ bw bj oj t vj vt pre post w j 2 _ _ (hp0.sub (by exact by repeat (first | exact Sub.refl _ | assumption | refine Sub.new hc.1 ?_ _ _ | refine Sub.set hc.1 ?_ (by omega) _ | refine Sub.trans ?_ (by assumption)))) (by simp only [inI64]; omega)) hw (by exact by repeat (first | exact Sub.refl _ | assumption | refine Sub.new hc.1 ?_ _ _ | refine Sub.set hc.1 ?_ (by omega) _ | refine Sub.trans ?_ (by assumption))) hnS ?_
      intro H2 S2 w2 m2 g2 _ _ _
      repeat' (first | simp -implicitDefEqProofs only [go_sem])
      rw [show probeD w t j = endD w t j 2 by unfold probeD; rw [htag, if_pos e0, if_neg (by omega)]]
      exact retK_nil ⟨rfl, S2, m2, g2⟩
  · have d0 : decide (tag = 0) = false := hf e0
    by_cases e3 : (untag tag).1 = j.op.key
    · have d3 : decide ((untag tag).1 = j.op.key) = true := hd e3
      rcases hkind with k1 | k1
      · have d1 : decide (j.op.kind = 2) = false := hf (by omega)
        by_cases e4 : (untag tag).2 = j.op.what
        · have d4 : decide ((untag tag).2 = j.op.what) = true := hd e4
          repeat' (first | simp -implicitDefEqProofs only [go_sem] | (simp -implicitDefEqProofs (disch := omega) only [bB, jB, hne, hne', z0, z1, z2, y0, y1, y2, z0', y0', blk_set_self, wr_pre hpl, wr_pre0 hpl, drop_pre hpl, drop_pre0 hpl, lc, cc, ll, cl, lk, ck, lr, cr, lj, cj, lt, ct, wr_succ, wr_zero, wr_none, set_set, Bool.and_self, if_false, List.length_append, List.length_cons, d0, d1, d3, d4, if_true, if_false, Bool.false_eq_true]) | (rw [if_pos (by omega)]) | (refine ACallK.eq (Probe_impl _ _ _ _ f1) ?_; rw [hqq]) | (refine ACallK.eq (KeyCell_impl _ _ _) ?_; rw [keyCell_in hq]) | (refine ixI hu ?_) | (refine rdI hu ?_; rw [htg]) | (refine ACallK.eq (Untag_impl _ _ _ hI) ?_) | ((with_reducible refine adraw_seq ?_ ?_ ?_); (· kernel_rfl); (· decide +kernel)) | ((with_reducible refine adraw_plan [(0, []), (1, []), (2, []), (3, []), (4, []), (5, []), (6, [0, 1, 2, 3, 4]), (7, []), (8, []), (9, [])] ?_ ?_ ?_); (· kernel_rfl); (· decide +kernel)))
          refine ACallK.mvr (H0 := H) (finish_ok _ bw bj oj t vj vt pre post w j 0 _ _ (hp0.sub (by exact by repeat (first | exact Sub.refl _ | assumption | refine Sub.new hc.1 ?_ _ _ | refine Sub.set hc.1 ?_ (by omega) _ | refine Sub.trans ?_ (by assumption)))) (by simp only [inI64]; omega)) hw (by exact by repeat (first | exact Sub.refl _ | assumption | refine Sub.new hc.1 ?_ _ _ | refine Sub.set hc.1 ?_ (by omega) _ | refine Sub.trans ?_ (by assumption))) hnS ?_
          intro H2 S2 w2 m2 g2 _ _ _
          repeat' (first | simp -implicitDefEqProofs only [go_sem])
          rw [show probeD w t j = endD w t j 0 by unfold probeD; rw [htag, if_neg e0, if_pos e3, if_neg (by omega), if_pos e4]]
          exact retK_nil ⟨rfl, S2, m2, g2⟩
        · have d4 : decide ((untag tag).2 = j.op.what) = false := hf e4
          repeat' (first | simp -implicitDefEqProofs only [go_sem] | (simp -implicitDefEqProofs (disch := omega) only [bB, jB, hne, hne', z0, z1, z2, y0, y1, y2, z0', y0', blk_set_self, wr_pre hpl, wr_pre0 hpl, drop_pre hpl, drop_pre0 hpl, lc, cc, ll, cl, lk, ck, lr, cr, lj, cj, lt, ct, wr_succ, wr_zero, wr_none, set_set, Bool.and_self, if_false, List.length_append, List.length_cons, d0, d1, d3, d4, if_true, if_false, Bool.false_eq_true]) | (rw [if_pos (by omega)]) | (refine ACallK.eq (Probe_impl _ _ _ _ f1) ?_; rw [hqq]) | (refine ACallK.eq (KeyCell_impl _ _ _) ?_; rw [keyCell_in hq]) | (refine ixI hu ?_) | (refine rdI hu ?_; rw [htg]) | (refine ACallK.eq (Untag_impl _ _ _ hI) ?_) | ((with_reducible refine adraw_seq ?_ ?_ ?_); (· kernel_rfl); (· decide +kernel)) | ((with_reducible refine adraw_plan [(0, []), (1, []), (2, []), (3, []), (4, []), (5, []), (6, [0, 1, 2, 3, 4]), (7, []), (8, []), (9, [])] ?_ ?_ ?_); (· kernel_rfl); (· decide +kernel)))
          refine ACallK.mvr (H0 := H) (finish_ok _ bw bj oj t vj vt pre post w j 4 _ _ (hp0.sub (by exact by repeat (first | exact Sub.refl _ | assumption | refine Sub.new hc.1 ?_ _ _ | refine Sub.set hc.1 ?_ (by omega) _ | refine Sub.trans ?_ (by assumption)))) (by simp only [inI64]; omega)) hw (by exact by repeat (first | exact Sub.refl _ | assumption | refine Sub.new hc.1 ?_ _ _ | refine Sub.set hc.1 ?_ (by omega) _ | refine Sub.trans ?_ (by assumption))) hnS ?_
          intro H2 S2 w2 m2 g2 _ _ _
          repeat' (first | simp -implicitDefEqProofs only [go_sem])
          rw [show probeD w t j = endD w t j 4 by unfold probeD; rw [htag, if_neg e0, if_pos e3, if_neg (by omega), if_neg e4]]
          exact retK_nil ⟨rfl, S2, m2, g2⟩
      · have d1 : decide (j.op.kind = 2) = true := hd k1
        repeat' (first | simp -implicitDefEqProofs only [go_sem] | (simp -implicitDefEqProofs (disch := omega) only [bB, jB, hne, hne', z0, z1, z2, y0, y1, y2, z0', y0', blk_set_self, wr_pre hpl, wr_pre0 hpl, drop_pre hpl, drop_pre0 hpl, lc, cc, ll, cl, lk, ck, lr, cr, lj, cj, lt, ct, wr_succ, wr_zero, wr_none, set_set, Bool.and_self, if_false, List.length_append, List.length_cons, d0, d1, d3, if_true, if_false, Bool.false_eq_true]) | (rw [if_pos (by omega)]) | (refine ACallK.eq (Probe_impl _ _ _ _ f1) ?_; rw [hqq]) | (refine ACallK.eq (KeyCell_impl _ _ _) ?_; rw [keyCell_in hq]) | (refine ixI hu ?_) | (refine rdI hu ?_; rw [htg]) | (refine ACallK.eq (Untag_impl _ _ _ hI) ?_) | ((with_reducible refine adraw_seq ?_ ?_ ?_); (· kernel_rfl); (· decide +kernel)) | (with_reducible refine And.intro (by omega) ?_) | ((with_reducible refine adraw_plan [(0, []), (1, []), (2, []), (3, []), (4, []), (5, []), (6, [0, 1, 2, 3, 4]), (7, []), (8, []), (9, [])] ?_ ?_ ?_); (· kernel_rfl); (· decide +kernel)))
        rw [show probeD w t j = (w, { j with slot := q, what := (untag tag).2, pc := 2 }) by unfold probeD; rw [htag, if_neg e0, if_pos e3, if_pos k1, hqq]]
        refine retK_nil ⟨rfl, MvR.fin (j' := { j with slot := q, what := (untag tag).2, pc := 2 }) hw hm0.in2 (Upd.refl H hn) oc ol ⟨vk, vr, Sk, Sr, rfl, rfl, f0, f1, f2, f3, f4, (by simp only [inI64]; omega), f6, (by simp only [inI64]; omega), (by simp only [inI64]; omega), f9, f10, f11, f12, f13, f14, f15, f16⟩ hw (fun b h1 h2 h3 => ?_) (Nat.le_succ _) ?_ ?_⟩
        · simp only [blk_set, blk_new, if_neg h2, if_neg (show ¬ b = H.nxt by omega)]
        · simp only [blk_set, blk_new, hne, z0, if_false]; exact bB
        · exact blk_set_self _ _ _
    · have d3 : decide ((untag tag).1 = j.op.key) = false := hf e3
      by_cases e5 : j.k < 3
      · have d5 : decide (j.k < 3) = true := hd e5
        repeat' (first | simp -implicitDefEqProofs only [go_sem] | (simp -implicitDefEqProofs (disch := omega) only [bB, jB, hne, hne', z0, z1, z2, y0, y1, y2, z0', y0', blk_set_self, wr_pre hpl, wr_pre0 hpl, drop_pre hpl, drop_pre0 hpl, lc, cc, ll, cl, lk, ck, lr, cr, lj, cj, lt, ct, wr_succ, wr_zero, wr_none, set_set, Bool.and_self, if_false, List.length_append, List.length_cons, d0, d3, d5, ek, if_true, if_false, Bool.false_eq_true]) | (rw [if_pos (by omega)]) | (refine ACallK.eq (Probe_impl _ _ _ _ f1) ?_; rw [hqq]) | (refine ACallK.eq (KeyCell_impl _ _ _) ?_; rw [keyCell_in hq]) | (refine ixI hu ?_) | (refine rdI hu ?_; rw [htg]) | (refine ACallK.eq (Untag_impl _ _ _ hI) ?_) | ((with_reducible refine adraw_seq ?_ ?_ ?_); (· kernel_rfl); (· decide +kernel)) | (with_reducible refine And.intro (by omega) ?_) | ((with_reducible refine adraw_plan [(0, []), (1, []), (2, []), (3, []), (4, []), (5, []), (6, [0, 1, 2, 3, 4]), (7, []), (8, []), (9, [])] ?_ ?_ ?_); (· kernel_rfl); (· decide +kernel)))
        rw [show probeD w t j = (w, { j with k := j.k + 1 }) by unfold probeD; rw [htag, if_neg e0, if_neg e3, if_pos e5]]
        refine retK_nil ⟨rfl, MvR.fin (j' := { j with k := j.k + 1 }) hw hm0.in2 (Upd.refl H hn) oc ol ⟨vk, vr, Sk, Sr, rfl, rfl, f0, f1, f2, f3, f4, f5, (by simp only [inI64]; omega), f7, f8, f9, f10, f11, f12, f13, f14, f15, f16⟩ hw (fun b h1 h2 h3 => ?_) (Nat.le_succ _) ?_ ?_⟩
        · simp only [blk_set, blk_new, if_neg h2, if_neg (show ¬ b = H.nxt by omega)]
        · simp only [blk_set, blk_new, hne, z0, if_false]; exact bB
        · exact blk_set_self _ _ _
      · have d5 : decide (j.k < 3) = false := hf e5
        rcases hkind with k1 | k1
        · have d1 : decide (j.op.kind = 2) = false := hf (by omega)
          repeat' (first | simp -implicitDefEqProofs only [go_sem] | (simp -implicitDefEqProofs (disch := omega) only [bB, jB, hne, hne', z0, z1, z2, y0, y1, y2, z0', y0', blk_set_self, wr_pre hpl, wr_pre0 hpl, drop_pre hpl, drop_pre0 hpl, lc, cc, ll, cl, lk, ck, lr, cr, lj, cj, lt, ct, wr_succ, wr_zero, wr_none, set_set, Bool.and_self, if_false, List.length_append, List.length_cons, d0, d1, d3, d5, if_true, if_false, Bool.false_eq_true]) | (rw [if_pos (by omega)]) | (refine ACallK.eq (Probe_impl _ _ _ _ f1) ?_; rw [hqq]) | (refine ACallK.eq (KeyCell_impl _ _ _) ?_; rw [keyCell_in hq]) | (refine ixI hu ?_) | (refine rdI hu ?_; rw [htg]) | (refine ACallK.eq (Untag_impl _ _ _ hI) ?_) | ((with_reducible refine adraw_seq ?_ ?_ ?_); (· kernel_rfl); (· decide +kernel)) | ((with_reducible refine adraw_plan [(0, []), (1, []), (2, []), (3, []), (4, []), (5, []), (6, [0, 1, 2, 3, 4]), (7, []), (8, []), (9, [])] ?_ ?_ ?_); (· kernel_rfl); (· decide +kernel)))
          refine ACallK.mvr (H0 := H) (finish_ok _ bw bj oj t vj vt pre post w j 3 _ _ (hp0.sub (by exact by repeat (first | exact Sub.refl _ | assumption | refine Sub.new hc.1 ?_ _ _ | refine Sub.set hc.1 ?_ (by omega) _ | refine Sub.trans ?_ (by assumption)))) (by simp only [inI64]; omega)) hw (by exact by repeat (first | exact Sub.refl _ | assumption | refine Sub.new hc.1 ?_ _ _ | refine Sub.set hc.1 ?_ (by omega) _ | refine Sub.trans ?_ (by assumption))) hnS ?_
          intro H2 S2 w2 m2 g2 _ _ _
          repeat' (first | simp -implicitDefEqProofs only [go_sem])
          rw [show probeD w t j = endD w t j 3 by unfold probeD; rw [htag, if_neg e0, if_neg e3, if_neg e5, if_pos k1]]
          exact retK_nil ⟨rfl, S2, m2, g2⟩
        · have d1 : decide (j.op.kind = 2) = true := hd k1
          repeat' (first | simp -implicitDefEqProofs only [go_sem] | (simp -implicitDefEqProofs (disch := omega) only [bB, jB, hne, hne', z0, z1, z2, y0, y1, y2, z0', y0', blk_set_self, wr_pre hpl, wr_pre0 hpl, drop_pre hpl, drop_pre0 hpl, lc, cc, ll, cl, lk, ck, lr, cr, lj, cj, lt, ct, wr_succ, wr_zero, wr_none, set_set, Bool.and_self, if_false, List.length_append, List.length_cons, d0, d1, d3, d5, if_true, if_false, Bool.false_eq_true]) | (rw [if_pos (by omega)]) | (refine ACallK.eq (Probe_impl _ _ _ _ f1) ?_; rw [hqq]) | (refine ACallK.eq (KeyCell_impl _ _ _) ?_; rw [keyCell_in hq]) | (refine ixI hu ?_) | (refine rdI hu ?_; rw [htg]) | (refine ACallK.eq (Untag_impl _ _ _ hI) ?_) | ((with_reducible refine adraw_seq ?_ ?_ ?_); (· kernel_rfl); (· decide +kernel)) | ((with_reducible refine adraw_plan [(0, []), (1, []), (2, []), (3, []), (4, []), (5, []), (6, [0, 1, 2, 3, 4]), (7, []), (8, []), (9, [])] ?_ ?_ ?_); (· kernel_rfl); (· decide +kernel)))
          refine ACallK.mvr (H0 := H) (finish_ok _ bw bj oj t vj vt pre post w j 2 _ _ (hp0.sub (by exact by repeat (first | exact Sub.refl _ | assumption | refine Sub.new hc.1 ?_ _ _ | refine Sub.set hc.1 ?_ (by omega) _ | refine Sub.trans ?_ (by assumption)))) (by simp only [inI64]; omega)) hw (by exact by repeat (first | exact Sub.refl _ | assumption | refine Sub.new hc.1 ?_ _ _ | refine Sub.set hc.1 ?_ (by omega) _ | refine Sub.trans ?_ (by assumption))) hnS ?_
          intro H2 S2 w2 m2 g2 _ _ _
          repeat' (first | simp -implicitDefEqProofs only [go_sem])
          rw [show probeD w t j = endD w t j 2 by unfold probeD; rw [htag, if_neg e0, if_neg e3, if_neg e5, if_neg (by omega)]]
          exact retK_nil ⟨rfl, S2, m2, g2⟩
end Go.Proofs.YtipfnhfcoolhaaaGreat.Aw
end
section
namespace Go.Proofs.YtipfnhfcoolhaaaGreat.Aw
open Go Go.RowKit
set_option maxRecDepth 100000
set_option maxHeartbeats 2000000
attribute [-go_sem] wr_eq
theorem data_ok (W0 : World) (bw bj oj t : Nat) (vj vt : AV) (pre post : List AV) (w : WorldD) (j : JobD) (b : Int) (S : List Nat) (H : AH) (hp : MvP H S bw bj oj t vj vt pre post w j) (hd : DataP w j) (hb : b = j.e % 2) :
    ACalls Tryz.prog W0 177 [mvA bw bj oj t, .v (.int .i64 b)] H (fun r H' => r = .tup [] ∧ MvR H S bw bj vj vt pre post (dataD w t j) H') := by
  refine acallw Tryz.func177 rfl (by kernel_rfl) (by kernel_rfl) fun hc hw => ?_
  subst hb
  have hp0 := hp
  obtain ⟨⟨hn, vc, vl, cj, Sc, Sl, Sj, rfl, bB, jB, oc, ol, oj_⟩, hll, hj, ht, hnw, htt, hpl⟩ := hp
  obtain ⟨vk, vr, Sk, Sr, rfl, rfl, f0, f1, f2, f3, f4, f5, f6, f7, f8, f9, f10, f11, f12, f13, f14, f15, f16⟩ := oj_
  have lc := oc.leaf; have cc := oc.one
  have ll := ol.leaf; have cl := ol.one
  have lk := f15.leaf; have ck := f15.one
  have lr := f16.leaf; have cr := f16.one
  obtain ⟨lj, cj⟩ := hj
  obtain ⟨lt, ct⟩ := ht
  have hm0 : Mv H (bw :: bj :: (Sc ++ (Sl ++ (Sk ++ Sr)))) bw bj vj vt pre post w j := ⟨hn, vc, vl, _, Sc, Sl, Sk ++ Sr, rfl, bB, jB, oc, ol, vk, vr, Sk, Sr, rfl, rfl, f0, f1, f2, f3, f4, f5, f6, f7, f8, f9, f10, f11, f12, f13, f14, f15, f16⟩
  have hnS : ∀ b ∈ bw :: bj :: (Sc ++ (Sl ++ (Sk ++ Sr))), b < H.nxt := fun b hb => hw.lt' (hm0.isin b hb)
  obtain ⟨hnw1, hnj1, hne, hne', hU, nwU, njU, mC, mL, mK, mR, z0, z1, z2, y0, z0', y0', y1, y2⟩ := mvf hn hnS
  simp only [wcs] at bB
  simp only [List.cons_append, List.nil_append] at jB
  obtain ⟨hok, he, hslot, hval⟩ := hd
  obtain ⟨hb1, hb2, hb3, hb4⟩ := DataP.base ⟨hok, he, hslot, hval⟩
  have hlen := cellsOk_len hok
  have ett : (t : Int).tmod 2 = ((t % 2 : Nat) : Int) := by rw [Int.tmod_eq_emod_of_nonneg (by omega)]; omega
  have hcg := fun i => cellsOk_get hok i
  unfold wordP at hcg
  have hg2 := hcg (baseD j + 2)
  have hg4 := hcg (baseD j + 4)
  rw [show w.cells.getD (baseD j + 2) 0 = cget w (baseD j + 2) from rfl] at hg2
  rw [show w.cells.getD (baseD j + 4) 0 = cget w (baseD j + 4) from rfl] at hg4
  by_cases e1 : j.what = 1
  · have d1 : decide (j.what = 1) = true := decide_eq_true e1
    repeat' (first | simp -implicitDefEqProofs only [go_sem] | (simp -implicitDefEqProofs (disch := omega) only [bB, jB, hne, hne', z0, z1, z2, y0, y1, y2, z0', y0', blk_set_self, wr_pre hpl, wr_pre0 hpl, drop_pre hpl, drop_pre0 hpl, lc, cc, ll, cl, lk, ck, lr, cr, lj, cj, lt, ct, wr_succ, wr_zero, wr_none, set_set, Bool.and_self, if_false, List.length_append, List.length_cons, d1, ett, if_true, if_false, Bool.false_eq_true]) | (rw [if_pos (by omega)]) | (refine ACallK.eq (StripeCell_impl _ _ _ _ _) ?_; rw [stripeC, if_pos (by omega)]) | ((with_reducible refine adraw_plan [(0, []), (1, []), (2, []), (3, []), (4, []), (5, []), (6, []), (7, []), (8, []), (10, []), (11, []), (12, []), (13, []), (14, []), (9, [0, 10, 11, 12, 13, 14]), (15, [])] ?_ ?_ ?_); (· kernel_rfl); (· decide +kernel)))
    refine ACallK.mvr (H0 := H) (add_ok _ bw bj oj t vj vt pre post w j (slotBase (j.e % 2) j.slot + ((t % 2 : Nat) : Int)) j.op.val _ _ (hp0.sub (by exact by repeat (first | exact Sub.refl _ | assumption | refine Sub.new hc.1 ?_ _ _ | refine Sub.set hc.1 ?_ (by omega) _ | refine Sub.trans ?_ (by assumption)))) hok (by omega) (by omega)) hw (by exact by repeat (first | exact Sub.refl _ | assumption | refine Sub.new hc.1 ?_ _ _ | refine Sub.set hc.1 ?_ (by omega) _ | refine Sub.trans ?_ (by assumption))) hnS ?_
    intro H2 S2 w2 hs2 g2 kq m2 hS2
    have hm2 := hs2
    obtain ⟨hn2, vc2, vl2, cj2, Sc2, Sl2, Sj2, rfl, bB2, jB2, oc2, ol2, oj2⟩ := hs2
    obtain ⟨vk2, vr2, Sk2, Sr2, rfl, rfl, f_20, f_21, f_22, f_23, f_24, f_25, f_26, f_27, f_28, f_29, f_210, f_211, f_212, f_213, f_214, f_215, f_216⟩ := oj2
    have lc2 := oc2.leaf; have cc2 := oc2.one
    have ll2 := ol2.leaf; have cl2 := ol2.one
    have lk2 := f_215.leaf; have ck2 := f_215.one
    have lr2 := f_216.leaf; have cr2 := f_216.one
    simp only [wcs] at bB2
    simp only [List.cons_append, List.nil_append] at jB2
    have ei : (slotBase (j.e % 2) j.slot + ((t % 2 : Nat) : Int)).toNat = baseD j + t % 2 := by omega
    rw [ei] at hm2 oc2
    skip
    have a0 := kq H.nxt _ (fun hm => by have := hnS _ hm; omega) (by simp only [go_sem]; rfl)
    repeat' (first | simp -implicitDefEqProofs only [go_sem] | (simp -implicitDefEqProofs (disch := omega) only [a0, bB2, jB2, hne, hne', z0, z1, z2, y0, y1, y2, z0', y0', blk_set_self, wr_pre hpl, wr_pre0 hpl, drop_pre hpl, drop_pre0 hpl, lc2, cc2, ll2, cl2, lk2, ck2, lr2, cr2, lj, cj, lt, ct, wr_succ, wr_zero, wr_none, set_set, Bool.and_self, if_false, List.length_append, List.length_cons]) | (rw [if_pos (by omega)]) | simp -implicitDefEqProofs (disch := omega) only [wrap_in, u8_small, Int.tmod_eq_emod_of_nonneg, Int.tdiv_eq_ediv_of_nonneg] | ((with_reducible refine adraw_seq ?_ ?_ ?_); (· kernel_rfl); (· decide +kernel)))
    refine ACallK.mvr (H0 := H2) (effect_ok _ bw bj oj t vj vt pre post (cadd w (baseD j + t % 2) j.op.val) j 0 j.e _ _ ⟨hm2, hll, ⟨lj, cj⟩, ⟨lt, ct⟩, hnw, htt, hpl⟩ (by simp only [inI64]; omega) f9) w2 (Sub.refl _) (fun b hb => w2.lt' (hm2.isin b hb)) ?_
    intro H3 S3 w3 hs3 g3 kq m3 hS3
    have hm3 := hs3
    obtain ⟨hn3, vc3, vl3, cj3, Sc3, Sl3, Sj3, rfl, bB3, jB3, oc3, ol3, oj3⟩ := hs3
    obtain ⟨vk3, vr3, Sk3, Sr3, rfl, rfl, f_30, f_31, f_32, f_33, f_34, f_35, f_36, f_37, f_38, f_39, f_310, f_311, f_312, f_313, f_314, f_315, f_316⟩ := oj3
    have lc3 := oc3.leaf; have cc3 := oc3.one
    have ll3 := ol3.leaf; have cl3 := ol3.one
    have lk3 := f_315.leaf; have ck3 := f_315.one
    have lr3 := f_316.leaf; have cr3 := f_316.one
    simp only [wcs] at bB3
    simp only [List.cons_append, List.nil_append] at jB3
    repeat' (first | simp -implicitDefEqProofs only [go_sem] | (simp -implicitDefEqProofs (disch := omega) only [a0, bB3, jB3, hne, hne', z0, z1, z2, y0, y1, y2, z0', y0', blk_set_self, wr_pre hpl, wr_pre0 hpl, drop_pre hpl, drop_pre0 hpl, lc3, cc3, ll3, cl3, lk3, ck3, lr3, cr3, lj, cj, lt, ct, wr_succ, wr_zero, wr_none, set_set, Bool.and_self, if_false, List.length_append, List.length_cons]) | (with_reducible refine And.intro (by omega) ?_) | fail)
    have g4 := g2.trans hw g3
    rw [show dataD w t j = ((pointD (cadd w (baseD j + t % 2) j.op.val) t j 0 j.e).1, { j with code := 0, pc := 9 }) by unfold dataD; rw [if_pos e1]]
    refine retK_nil ⟨rfl, MvR.fin (w' := (pointD (cadd w (baseD j + t % 2) j.op.val) t j 0 j.e).1) (j' := { j with code := 0, pc := 9 }) w3 hm0.in2 g4 oc3 ol3 ⟨vk3, vr3, Sk3, Sr3, rfl, rfl, f_30, f_31, f_32, f_33, f_34, (by simp only [inI64]; omega), f_36, f_37, f_38, f_39, f_310, f_311, f_312, f_313, f_314, f_315, f_316⟩ hw (fun b h1 h2 _ => ?_) (Nat.le_refl _) ?_ ?_⟩
    · simp only [blk_set, if_neg h2]
    · simp only [blk_set, hne, if_false]; exact bB3
    · exact blk_set_self _ _ _
  · have d1 : decide (j.what = 1) = false := decide_eq_false e1
    by_cases e2 : j.what = 2
    · have d2 : decide (j.what = 2) = true := decide_eq_true e2
      repeat' (first | simp -implicitDefEqProofs only [go_sem] | (simp -implicitDefEqProofs (disch := omega) only [bB, jB, hne, hne', z0, z1, z2, y0, y1, y2, z0', y0', blk_set_self, wr_pre hpl, wr_pre0 hpl, drop_pre hpl, drop_pre0 hpl, lc, cc, ll, cl, lk, ck, lr, cr, lj, cj, lt, ct, wr_succ, wr_zero, wr_none, set_set, Bool.and_self, if_false, List.length_append, List.length_cons, d1, d2, ett, if_true, if_false, Bool.false_eq_true]) | (rw [if_pos (by omega)]) | (refine ACallK.eq (StampCell_impl _ _ _ _) ?_; rw [cellC, if_pos (by omega)]) | ((with_reducible refine adraw_plan [(0, []), (1, []), (2, []), (3, []), (4, []), (5, []), (6, [0]), (7, []), (8, [])] ?_ ?_ ?_); (· kernel_rfl); (· decide +kernel)))
      refine ACallK.mvr (H0 := H) (add_ok _ bw bj oj t vj vt pre post w j (slotBase (j.e % 2) j.slot + 2) 1 _ _ (hp0.sub (by exact by repeat (first | exact Sub.refl _ | assumption | refine Sub.new hc.1 ?_ _ _ | refine Sub.set hc.1 ?_ (by omega) _ | refine Sub.trans ?_ (by assumption)))) hok (by omega) (by omega)) hw (by exact by repeat (first | exact Sub.refl _ | assumption | refine Sub.new hc.1 ?_ _ _ | refine Sub.set hc.1 ?_ (by omega) _ | refine Sub.trans ?_ (by assumption))) hnS ?_
      intro H2 S2 w2 hs2 g2 kq m2 hS2
      have hm2 := hs2
      obtain ⟨hn2, vc2, vl2, cj2, Sc2, Sl2, Sj2, rfl, bB2, jB2, oc2, ol2, oj2⟩ := hs2
      obtain ⟨vk2, vr2, Sk2, Sr2, rfl, rfl, f_20, f_21, f_22, f_23, f_24, f_25, f_26, f_27, f_28, f_29, f_210, f_211, f_212, f_213, f_214, f_215, f_216⟩ := oj2
      have lc2 := oc2.leaf; have cc2 := oc2.one
      have ll2 := ol2.leaf; have cl2 := ol2.one
      have lk2 := f_215.leaf; have ck2 := f_215.one
      have lr2 := f_216.leaf; have cr2 := f_216.one
      simp only [wcs] at bB2
      simp only [List.cons_append, List.nil_append] at jB2
      have ei : (slotBase (j.e % 2) j.slot + 2).toNat = baseD j + 2 := by omega
      rw [ei] at hm2 oc2
      rw [ei]
      have a0 := kq H.nxt _ (fun hm => by have := hnS _ hm; omega) (by simp only [go_sem]; rfl)
      repeat' (first | simp -implicitDefEqProofs only [go_sem] | (simp -implicitDefEqProofs (disch := omega) only [a0, bB2, jB2, hne, hne', z0, z1, z2, y0, y1, y2, z0', y0', blk_set_self, wr_pre hpl, wr_pre0 hpl, drop_pre hpl, drop_pre0 hpl, lc2, cc2, ll2, cl2, lk2, ck2, lr2, cr2, lj, cj, lt, ct, wr_succ, wr_zero, wr_none, set_set, Bool.and_self, if_false, List.length_append, List.length_cons]) | (rw [if_pos (by omega)]) | ((with_reducible refine adraw_seq ?_ ?_ ?_); (· kernel_rfl); (· decide +kernel)))
      refine ACallK.mvr (H0 := H2) (effect_ok _ bw bj oj t vj vt pre post (cadd w (baseD j + 2) 1) j 0 j.e _ _ ⟨hm2, hll, ⟨lj, cj⟩, ⟨lt, ct⟩, hnw, htt, hpl⟩ (by simp only [inI64]; omega) f9) w2 (Sub.refl _) (fun b hb => w2.lt' (hm2.isin b hb)) ?_
      intro H3 S3 w3 hs3 g3 kq m3 hS3
      have hm3 := hs3
      obtain ⟨hn3, vc3, vl3, cj3, Sc3, Sl3, Sj3, rfl, bB3, jB3, oc3, ol3, oj3⟩ := hs3
      obtain ⟨vk3, vr3, Sk3, Sr3, rfl, rfl, f_30, f_31, f_32, f_33, f_34, f_35, f_36, f_37, f_38, f_39, f_310, f_311, f_312, f_313, f_314, f_315, f_316⟩ := oj3
      have lc3 := oc3.leaf; have cc3 := oc3.one
      have ll3 := ol3.leaf; have cl3 := ol3.one
      have lk3 := f_315.leaf; have ck3 := f_315.one
      have lr3 := f_316.leaf; have cr3 := f_316.one
      simp only [wcs] at bB3
      simp only [List.cons_append, List.nil_append] at jB3
      repeat' (first | simp -implicitDefEqProofs only [go_sem] | (simp -implicitDefEqProofs (disch := omega) only [a0, bB3, jB3, hne, hne', z0, z1, z2, y0, y1, y2, z0', y0', blk_set_self, wr_pre hpl, wr_pre0 hpl, drop_pre hpl, drop_pre0 hpl, lc3, cc3, ll3, cl3, lk3, ck3, lr3, cr3, lj, cj, lt, ct, wr_succ, wr_zero, wr_none, set_set, Bool.and_self, if_false, List.length_append, List.length_cons]) | (simp -implicitDefEqProofs (disch := omega) only [wrap_in, Int.tmod_eq_emod_of_nonneg]) | (with_reducible refine And.intro (by omega) ?_) | fail)
      have g4 := g2.trans hw g3
      rw [show dataD w t j = ((pointD (cadd w (baseD j + 2) 1) t j 0 j.e).1, { j with code := 0, stamp := (cget w (baseD j + 2) + 1) % 281474976710656, pc := 6 }) by unfold dataD; rw [if_neg e1, if_pos e2]]
      refine retK_nil ⟨rfl, MvR.fin (w' := (pointD (cadd w (baseD j + 2) 1) t j 0 j.e).1) (j' := { j with code := 0, stamp := (cget w (baseD j + 2) + 1) % 281474976710656, pc := 6 }) w3 hm0.in2 g4 oc3 ol3 ⟨vk3, vr3, Sk3, Sr3, rfl, rfl, f_30, f_31, f_32, f_33, f_34, (by simp only [inI64]; omega), f_36, f_37, f_38, f_39, (by simp only [inI64]; omega), f_311, f_312, f_313, f_314, f_315, f_316⟩ hw (fun b h1 h2 _ => ?_) (Nat.le_refl _) ?_ ?_⟩
      · simp only [blk_set, if_neg h2]
      · simp only [blk_set, hne, if_false]; exact bB3
      · exact blk_set_self _ _ _
    · have d2 : decide (j.what = 2) = false := decide_eq_false e2
      by_cases e3 : 3 ≤ cget w (baseD j + 4)
      · have d3 : decide (cget w (baseD j + 4) < 3) = false := decide_eq_false (by omega)
        repeat' (first | simp -implicitDefEqProofs only [go_sem] | (simp -implicitDefEqProofs (disch := omega) only [bB, jB, hne, hne', z0, z1, z2, y0, y1, y2, z0', y0', blk_set_self, wr_pre hpl, wr_pre0 hpl, drop_pre hpl, drop_pre0 hpl, lc, cc, ll, cl, lk, ck, lr, cr, lj, cj, lt, ct, wr_succ, wr_zero, wr_none, set_set, Bool.and_self, if_false, List.length_append, List.length_cons, d1, d2, d3, ett, if_true, if_false, Bool.false_eq_true]) | (rw [if_pos (by omega)]) | (refine ACallK.eq (TicketCell_impl _ _ _ _) ?_; rw [cellC, if_pos (by omega)]) | ((with_reducible refine adraw_plan [(0, []), (1, []), (2, []), (3, []), (4, []), (5, []), (6, [0]), (7, []), (8, [])] ?_ ?_ ?_); (· kernel_rfl); (· decide +kernel)))
        refine ACallK.mvr (H0 := H) (add_ok _ bw bj oj t vj vt pre post w j (slotBase (j.e % 2) j.slot + 4) 1 _ _ (hp0.sub (by exact by repeat (first | exact Sub.refl _ | assumption | refine Sub.new hc.1 ?_ _ _ | refine Sub.set hc.1 ?_ (by omega) _ | refine Sub.trans ?_ (by assumption)))) hok (by omega) (by omega)) hw (by exact by repeat (first | exact Sub.refl _ | assumption | refine Sub.new hc.1 ?_ _ _ | refine Sub.set hc.1 ?_ (by omega) _ | refine Sub.trans ?_ (by assumption))) hnS ?_
        intro H2 S2 w2 hs2 g2 kq m2 hS2
        have hm2 := hs2
        obtain ⟨hn2, vc2, vl2, cj2, Sc2, Sl2, Sj2, rfl, bB2, jB2, oc2, ol2, oj2⟩ := hs2
        obtain ⟨vk2, vr2, Sk2, Sr2, rfl, rfl, f_20, f_21, f_22, f_23, f_24, f_25, f_26, f_27, f_28, f_29, f_210, f_211, f_212, f_213, f_214, f_215, f_216⟩ := oj2
        have lc2 := oc2.leaf; have cc2 := oc2.one
        have ll2 := ol2.leaf; have cl2 := ol2.one
        have lk2 := f_215.leaf; have ck2 := f_215.one
        have lr2 := f_216.leaf; have cr2 := f_216.one
        simp only [wcs] at bB2
        simp only [List.cons_append, List.nil_append] at jB2
        have ei : (slotBase (j.e % 2) j.slot + 4).toNat = baseD j + 4 := by omega
        rw [ei] at hm2 oc2
        rw [ei]
        have a0 := kq H.nxt _ (fun hm => by have := hnS _ hm; omega) (by simp only [go_sem]; rfl)
        repeat' (first | simp -implicitDefEqProofs only [go_sem] | (simp -implicitDefEqProofs (disch := omega) only [a0, bB2, jB2, hne, hne', z0, z1, z2, y0, y1, y2, z0', y0', blk_set_self, wr_pre hpl, wr_pre0 hpl, drop_pre hpl, drop_pre0 hpl, lc2, cc2, ll2, cl2, lk2, ck2, lr2, cr2, lj, cj, lt, ct, wr_succ, wr_zero, wr_none, set_set, Bool.and_self, if_false, List.length_append, List.length_cons, d3]) | (rw [if_pos (by omega)]) | ((with_reducible refine adraw_seq ?_ ?_ ?_); (· kernel_rfl); (· decide +kernel)))
        refine ACallK.mvr (H0 := H2) (effect_ok _ bw bj oj t vj vt pre post (cadd w (baseD j + 4) 1) j 5 j.e _ _ ⟨hm2, hll, ⟨lj, cj⟩, ⟨lt, ct⟩, hnw, htt, hpl⟩ (by simp only [inI64]; omega) f9) w2 (Sub.refl _) (fun b hb => w2.lt' (hm2.isin b hb)) ?_
        intro H3 S3 w3 hs3 g3 kq m3 hS3
        have hm3 := hs3
        obtain ⟨hn3, vc3, vl3, cj3, Sc3, Sl3, Sj3, rfl, bB3, jB3, oc3, ol3, oj3⟩ := hs3
        obtain ⟨vk3, vr3, Sk3, Sr3, rfl, rfl, f_30, f_31, f_32, f_33, f_34, f_35, f_36, f_37, f_38, f_39, f_310, f_311, f_312, f_313, f_314, f_315, f_316⟩ := oj3
        have lc3 := oc3.leaf; have cc3 := oc3.one
        have ll3 := ol3.leaf; have cl3 := ol3.one
        have lk3 := f_315.leaf; have ck3 := f_315.one
        have lr3 := f_316.leaf; have cr3 := f_316.one
        simp only [wcs] at bB3
        simp only [List.cons_append, List.nil_append] at jB3
        repeat' (first | simp -implicitDefEqProofs only [go_sem] | (simp -implicitDefEqProofs (disch := omega) only [a0, bB3, jB3, hne, hne', z0, z1, z2, y0, y1, y2, z0', y0', blk_set_self, wr_pre hpl, wr_pre0 hpl, drop_pre hpl, drop_pre0 hpl, lc3, cc3, ll3, cl3, lk3, ck3, lr3, cr3, lj, cj, lt, ct, wr_succ, wr_zero, wr_none, set_set, Bool.and_self, if_false, List.length_append, List.length_cons, d3]) | (with_reducible refine And.intro (by omega) ?_) | fail)
        have g4 := g2.trans hw g3
        rw [show dataD w t j = ((pointD (cadd w (baseD j + 4) 1) t j 5 j.e).1, { j with code := 5, pc := 9 }) by unfold dataD; rw [if_neg e1, if_neg e2, if_pos e3]]
        refine retK_nil ⟨rfl, MvR.fin (w' := (pointD (cadd w (baseD j + 4) 1) t j 5 j.e).1) (j' := { j with code := 5, pc := 9 }) w3 hm0.in2 g4 oc3 ol3 ⟨vk3, vr3, Sk3, Sr3, rfl, rfl, f_30, f_31, f_32, f_33, f_34, (by simp only [inI64]; omega), f_36, f_37, f_38, f_39, f_310, f_311, f_312, f_313, f_314, f_315, f_316⟩ hw (fun b h1 h2 _ => ?_) (Nat.le_refl _) ?_ ?_⟩
        · simp only [blk_set, if_neg h2]
        · simp only [blk_set, hne, if_false]; exact bB3
        · exact blk_set_self _ _ _
      · have d3 : decide (cget w (baseD j + 4) < 3) = true := decide_eq_true (by omega)
        repeat' (first | simp -implicitDefEqProofs only [go_sem] | (simp -implicitDefEqProofs (disch := omega) only [bB, jB, hne, hne', z0, z1, z2, y0, y1, y2, z0', y0', blk_set_self, wr_pre hpl, wr_pre0 hpl, drop_pre hpl, drop_pre0 hpl, lc, cc, ll, cl, lk, ck, lr, cr, lj, cj, lt, ct, wr_succ, wr_zero, wr_none, set_set, Bool.and_self, if_false, List.length_append, List.length_cons, d1, d2, d3, ett, if_true, if_false, Bool.false_eq_true]) | (rw [if_pos (by omega)]) | (refine ACallK.eq (TicketCell_impl _ _ _ _) ?_; rw [cellC, if_pos (by omega)]) | ((with_reducible refine adraw_plan [(0, []), (1, []), (2, []), (3, []), (4, []), (5, []), (6, [0]), (7, []), (8, [])] ?_ ?_ ?_); (· kernel_rfl); (· decide +kernel)))
        refine ACallK.mvr (H0 := H) (add_ok _ bw bj oj t vj vt pre post w j (slotBase (j.e % 2) j.slot + 4) 1 _ _ (hp0.sub (by exact by repeat (first | exact Sub.refl _ | assumption | refine Sub.new hc.1 ?_ _ _ | refine Sub.set hc.1 ?_ (by omega) _ | refine Sub.trans ?_ (by assumption)))) hok (by omega) (by omega)) hw (by exact by repeat (first | exact Sub.refl _ | assumption | refine Sub.new hc.1 ?_ _ _ | refine Sub.set hc.1 ?_ (by omega) _ | refine Sub.trans ?_ (by assumption))) hnS ?_
        intro H2 S2 w2 hs2 g2 kq m2 hS2
        have hm2 := hs2
        obtain ⟨hn2, vc2, vl2, cj2, Sc2, Sl2, Sj2, rfl, bB2, jB2, oc2, ol2, oj2⟩ := hs2
        obtain ⟨vk2, vr2, Sk2, Sr2, rfl, rfl, f_20, f_21, f_22, f_23, f_24, f_25, f_26, f_27, f_28, f_29, f_210, f_211, f_212, f_213, f_214, f_215, f_216⟩ := oj2
        have lc2 := oc2.leaf; have cc2 := oc2.one
        have ll2 := ol2.leaf; have cl2 := ol2.one
        have lk2 := f_215.leaf; have ck2 := f_215.one
        have lr2 := f_216.leaf; have cr2 := f_216.one
        simp only [wcs] at bB2
        simp only [List.cons_append, List.nil_append] at jB2
        have ei : (slotBase (j.e % 2) j.slot + 4).toNat = baseD j + 4 := by omega
        rw [ei] at hm2 oc2
        rw [ei]
        have a0 := kq H.nxt _ (fun hm => by have := hnS _ hm; omega) (by simp only [go_sem]; rfl)
        repeat' (first | simp -implicitDefEqProofs only [go_sem] | (simp -implicitDefEqProofs (disch := omega) only [a0, bB2, jB2, hne, hne', z0, z1, z2, y0, y1, y2, z0', y0', blk_set_self, wr_pre hpl, wr_pre0 hpl, drop_pre hpl, drop_pre0 hpl, lc2, cc2, ll2, cl2, lk2, ck2, lr2, cr2, lj, cj, lt, ct, wr_succ, wr_zero, wr_none, set_set, Bool.and_self, if_false, List.length_append, List.length_cons, d3]) | (rw [if_pos (by omega)]) | ((with_reducible refine adraw_seq ?_ ?_ ?_); (· kernel_rfl); (· decide +kernel)))
        refine ACallK.mvr (H0 := H2) (effect_ok _ bw bj oj t vj vt pre post (cadd w (baseD j + 4) 1) j 0 j.e _ _ ⟨hm2, hll, ⟨lj, cj⟩, ⟨lt, ct⟩, hnw, htt, hpl⟩ (by simp only [inI64]; omega) f9) w2 (Sub.refl _) (fun b hb => w2.lt' (hm2.isin b hb)) ?_
        intro H3 S3 w3 hs3 g3 kq m3 hS3
        have hm3 := hs3
        obtain ⟨hn3, vc3, vl3, cj3, Sc3, Sl3, Sj3, rfl, bB3, jB3, oc3, ol3, oj3⟩ := hs3
        obtain ⟨vk3, vr3, Sk3, Sr3, rfl, rfl, f_30, f_31, f_32, f_33, f_34, f_35, f_36, f_37, f_38, f_39, f_310, f_311, f_312, f_313, f_314, f_315, f_316⟩ := oj3
        have lc3 := oc3.leaf; have cc3 := oc3.one
        have ll3 := ol3.leaf; have cl3 := ol3.one
        have lk3 := f_315.leaf; have ck3 := f_315.one
        have lr3 := f_316.leaf; have cr3 := f_316.one
        simp only [wcs] at bB3
        simp only [List.cons_append, List.nil_append] at jB3
        repeat' (first | simp -implicitDefEqProofs only [go_sem] | (simp -implicitDefEqProofs (disch := omega) only [a0, bB3, jB3, hne, hne', z0, z1, z2, y0, y1, y2, z0', y0', blk_set_self, wr_pre hpl, wr_pre0 hpl, drop_pre hpl, drop_pre0 hpl, lc3, cc3, ll3, cl3, lk3, ck3, lr3, cr3, lj, cj, lt, ct, wr_succ, wr_zero, wr_none, set_set, Bool.and_self, if_false, List.length_append, List.length_cons, d3]) | (with_reducible refine And.intro (by omega) ?_) | fail)
        have g4 := g2.trans hw g3
        rw [show dataD w t j = ((pointD (cadd w (baseD j + 4) 1) t j 0 j.e).1, { j with code := 0, k := cget w (baseD j + 4), pc := 8 }) by unfold dataD; rw [if_neg e1, if_neg e2, if_neg e3]]
        refine retK_nil ⟨rfl, MvR.fin (w' := (pointD (cadd w (baseD j + 4) 1) t j 0 j.e).1) (j' := { j with code := 0, k := cget w (baseD j + 4), pc := 8 }) w3 hm0.in2 g4 oc3 ol3 ⟨vk3, vr3, Sk3, Sr3, rfl, rfl, f_30, f_31, f_32, f_33, f_34, (by simp only [inI64]; omega), (by simp only [inI64]; omega), f_37, f_38, f_39, f_310, f_311, f_312, f_313, f_314, f_315, f_316⟩ hw (fun b h1 h2 _ => ?_) (Nat.le_refl _) ?_ ?_⟩
        · simp only [blk_set, if_neg h2]
        · simp only [blk_set, hne, if_false]; exact bB3
        · exact blk_set_self _ _ _
end Go.Proofs.YtipfnhfcoolhaaaGreat.Aw
end
