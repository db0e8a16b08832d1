/- Parts of a proof: Fwq Fws. -/
import Derived.Test.YtipfnhfcoolhaaaGreatK14
import Derived.Test.YtipfnhfcoolhaaaGreatK12
import Derived.Test.YtipfnhfcoolhaaaGreatK11
import Derived.Test.YtipfnhfcoolhaaaGreatK16
set_option linter.unusedVariables false
set_option linter.unusedSimpArgs false
section
namespace Go.Proofs.YtipfnhfcoolhaaaGreat.Aw
open Go Go.RowKit
set_option maxRecDepth 100000
set_option maxHeartbeats 2000000
attribute [-go_sem] wr_eq
theorem l11Probe_ok (W0 : World) (vc vj vt vl : AV) (cj : List AV) (w : WorldD) (t : Nat) (j : JobD) (S : List Nat) (H : AH) (hp : SpP H S w j t vc vj vt vl cj) (hok : cellsOk w.cells = true) (hkey : keyOk j.op.key = true) (hk : 0 ≤ j.k ∧ j.k ≤ 3) (hkind : j.op.kind = 1 ∨ j.op.kind = 2) :
    ACalls Tryz.prog W0 146 [.agg (wcs vc vj vt vl w), .v (.int .i64 t), .agg cj] H (SpR H S vj vt (probeD w t j)) := by
  refine acallw Tryz.func146 rfl (by kernel_rfl) (by kernel_rfl) fun hc hw => ?_
  have hp0 := hp
  obtain ⟨hs, hl, hj, ht, hnw, htt⟩ := hp
  have hs0 := hs
  obtain ⟨hn, Sc, Sl, Sj, rfl, oc, ol, oj⟩ := hs
  obtain ⟨vk, vr, Sk, Sr, rfl, rfl, f0, f1, f2, f3, f4, f5, f6, f7, f8, f9, f10, f11, f12, f13, f14, f15, f16⟩ := oj
  have lc := oc.leaf; have cc := oc.one
  have ll := ol.leaf; have cl := ol.one
  have lk := f15.leaf; have ck := f15.one
  have lr := f16.leaf; have cr := f16.one
  have hnS : ∀ b ∈ Sc ++ (Sl ++ (Sk ++ Sr)), b < H.nxt := fun b hb => hw.lt' (hs0.isin b hb)
  obtain ⟨lj, cj⟩ := hj
  obtain ⟨lt, ct⟩ := ht
  simp only [wcs]
  have hq := probe_bd hkey hk.1 hk.2
  have hu := oc.slr (W0 := W0)
  have hlen := cellsOk_len hok
  have hI := getD_I hu (3 + probe j.op.key j.k).toNat
  have htag : probeTag w j = w.cells.getD (3 + probe j.op.key j.k).toNat 0 := by unfold probeTag cget; rw [keyCell_in hq]
  generalize hqq : probe j.op.key j.k = q at *
  generalize htt : w.cells.getD (3 + q).toNat 0 = tag at *
  have hd : ∀ {p : Prop} [Decidable p], p → decide p = true := fun h => decide_eq_true h
  have hf : ∀ {p : Prop} [Decidable p], ¬ p → decide p = false := fun h => decide_eq_false h
  have hug := untag_I tag
  by_cases e0 : tag = 0
  · have d0 : decide (tag = 0) = true := hd e0
    rcases hkind with k1 | k1
    · have d1 : decide (j.op.kind = 1) = true := hd k1
      repeat' (first | simp -implicitDefEqProofs only [go_sem] | (simp -implicitDefEqProofs only [lc, cc, ll, cl, lk, ck, lr, cr, lj, cj, lt, ct, wr_succ, wr_zero, wr_none, set_set, Bool.and_self, d0, d1, if_true, if_false, Bool.false_eq_true]) | (refine ACallK.eq (Probe_spec _ _ _ _ f1) ?_; rw [hqq]) | (refine ACallK.eq (KeyCell_spec _ _ _) ?_; rw [keyCell_in hq]) | (refine ixI hu ?_) | (refine rdI hu ?_; rw [htt]) | (refine ACallK.eq (Untag_spec _ _ _ hI) ?_) | ((with_reducible refine adraw_plan [(0, []), (1, []), (2, []), (3, [0, 1]), (4, []), (5, []), (6, []), (7, []), (8, []), (9, []), (10, []), (11, [])] ?_ ?_ ?_); (· kernel_rfl); (· decide +kernel)) | ((with_reducible refine adraw_plan [(0, []), (1, []), (2, []), (3, [0, 1]), (4, []), (5, []), (6, []), (7, []), (8, []), (9, []), (10, []), (11, []), (12, []), (13, [])] ?_ ?_ ?_); (· kernel_rfl); (· decide +kernel)) | ((with_reducible refine adraw_plan [(0, []), (1, []), (2, [1]), (3, [])] ?_ ?_ ?_); (· kernel_rfl); (· decide +kernel)))
      rw [show probeD w t j = (w, { j with pc := 1 }) by unfold probeD; rw [htag, if_pos e0, if_pos k1]]
      refine retK_two (SpR.fin (p := (w, { j with pc := 1 })) hw (Upd.idle (Sub.refl H) hn) ⟨hn, Sc, Sl, Sk ++ Sr, rfl, oc, ol, vk, vr, Sk, Sr, rfl, rfl, f0, f1, f2, f3, f4, (by simp only [inI64]; omega), f6, f7, f8, f9, f10, f11, f12, f13, f14, f15, f16⟩ (fun b hb => .inl (hnS b hb)) (fun b hb => ?_) (Nat.le_add_right _ 4))
      simp only [go_sem, (show ¬ b = H.nxt by omega), (show ¬ b = H.nxt + 1 by omega), (show ¬ b = H.nxt + 2 by omega), (show ¬ b = H.nxt + 3 by omega), if_false]
    · have d1 : decide (j.op.kind = 1) = false := hf (by omega)
      repeat' (first | simp -implicitDefEqProofs only [go_sem] | (simp -implicitDefEqProofs only [lc, cc, ll, cl, lk, ck, lr, cr, lj, cj, lt, ct, wr_succ, wr_zero, wr_none, set_set, Bool.and_self, d0, d1, if_true, if_false, Bool.false_eq_true]) | (refine ACallK.eq (Probe_spec _ _ _ _ f1) ?_; rw [hqq]) | (refine ACallK.eq (KeyCell_spec _ _ _) ?_; rw [keyCell_in hq]) | (refine ixI hu ?_) | (refine rdI hu ?_; rw [htt]) | (refine ACallK.eq (Untag_spec _ _ _ hI) ?_) | ((with_reducible refine adraw_plan [(0, []), (1, []), (2, []), (3, [0, 1]), (4, []), (5, []), (6, []), (7, []), (8, []), (9, []), (10, []), (11, [])] ?_ ?_ ?_); (· kernel_rfl); (· decide +kernel)) | ((with_reducible refine adraw_plan [(0, []), (1, []), (2, []), (3, [0, 1]), (4, []), (5, []), (6, []), (7, []), (8, []), (9, []), (10, []), (11, []), (12, []), (13, [])] ?_ ?_ ?_); (· kernel_rfl); (· decide +kernel)) | ((with_reducible refine adraw_plan [(0, []), (1, []), (2, []), (3, [0, 1]), (4, []), (5, []), (6, []), (7, [])] ?_ ?_ ?_); (· kernel_rfl); (· decide +kernel)))
      refine ACallK.spr (l11End_ok _ vc vj vt vl _ w t j 2 _ _ (hp0.sub (by exact by repeat (first | exact Sub.refl _ | assumption | refine Sub.new hc.1 ?_ _ _ | refine Sub.set hc.1 ?_ (by omega) _ | refine Sub.trans ?_ (by assumption)))) (by simp only [inI64]; omega)) hw (by exact by repeat (first | exact Sub.refl _ | assumption | refine Sub.new hc.1 ?_ _ _ | refine Sub.set hc.1 ?_ (by omega) _ | refine Sub.trans ?_ (by assumption))) hnS ?_
      intro vc2 vl2 cj2 H2 S2 w2 hs2 g2 kq m2 hS2
      have hs20 := hs2
      obtain ⟨hn2, Sc2, Sl2, Sj2, rfl, oc2, ol2, oj2⟩ := hs2
      obtain ⟨vk2, vr2, Sk2, Sr2, rfl, rfl, f_20, f_21, f_22, f_23, f_24, f_25, f_26, f_27, f_28, f_29, f_210, f_211, f_212, f_213, f_214, f_215, f_216⟩ := oj2
      have lc2 := oc2.leaf; have cc2 := oc2.one
      have ll2 := ol2.leaf; have cl2 := ol2.one
      have lk2 := f_215.leaf; have ck2 := f_215.one
      have lr2 := f_216.leaf; have cr2 := f_216.one
      simp only [wcs]
      have a2 := kq (H.nxt + 2) _ (fun hm => by have := hnS _ hm; omega) (by simp only [go_sem]; rfl)
      have a3 := kq (H.nxt + 3) _ (fun hm => by have := hnS _ hm; omega) (by simp only [go_sem]; rfl)
      repeat' (first | simp -implicitDefEqProofs only [go_sem] | (simp -implicitDefEqProofs only [a2, a3, lc2, cc2, ll2, cl2, lk2, ck2, lr2, cr2, lj, cj, lt, ct, wr_succ, wr_zero, wr_none, set_set, blk_set_self, Bool.and_self]))
      simp only [go_sem] at hS2
      rw [show probeD w t j = endD w t j 2 by unfold probeD; rw [htag, if_pos e0, if_neg (by omega)]]
      refine retK_two (SpR.fin (p := endD w t j 2) hw g2 hs20 (fun b hb => by have := hS2 b hb; omega) (fun b hb => ?_) (Nat.le_refl _))
      simp only [blk_set, (show ¬ b = H.nxt by omega), (show ¬ b = H.nxt + 1 by omega), (show ¬ b = H.nxt + 2 by omega), (show ¬ b = H.nxt + 3 by omega), if_false]
  · have d0 : decide (tag = 0) = false := hf e0
    by_cases e3 : (untag tag).1 = j.op.key
    · have d3 : decide ((untag tag).1 = j.op.key) = true := hd e3
      rcases hkind with k1 | k1
      · have d1 : decide (j.op.kind = 1) = true := hd k1
        have d2 : decide (j.op.kind = 2) = false := hf (by omega)
        by_cases e4 : (untag tag).2 = j.op.what
        · have d4 : decide ((untag tag).2 = j.op.what) = true := hd e4
          repeat' (first | simp -implicitDefEqProofs only [go_sem] | (simp -implicitDefEqProofs only [lc, cc, ll, cl, lk, ck, lr, cr, lj, cj, lt, ct, wr_succ, wr_zero, wr_none, set_set, Bool.and_self, d0, d1, d2, d3, d4, if_true, if_false, Bool.false_eq_true]) | (refine ACallK.eq (Probe_spec _ _ _ _ f1) ?_; rw [hqq]) | (refine ACallK.eq (KeyCell_spec _ _ _) ?_; rw [keyCell_in hq]) | (refine ixI hu ?_) | (refine rdI hu ?_; rw [htt]) | (refine ACallK.eq (Untag_spec _ _ _ hI) ?_) | ((with_reducible refine adraw_plan [(0, []), (1, []), (2, []), (3, [0, 1]), (4, []), (5, []), (6, []), (7, []), (8, []), (9, []), (10, []), (11, [])] ?_ ?_ ?_); (· kernel_rfl); (· decide +kernel)) | ((with_reducible refine adraw_plan [(0, []), (1, []), (2, []), (3, [0, 1]), (4, []), (5, []), (6, []), (7, []), (8, []), (9, []), (10, []), (11, []), (12, []), (13, [])] ?_ ?_ ?_); (· kernel_rfl); (· decide +kernel)) | ((with_reducible refine adraw_plan [(0, []), (1, []), (2, []), (3, [0, 1]), (4, []), (5, []), (6, []), (7, [])] ?_ ?_ ?_); (· kernel_rfl); (· decide +kernel)))
          refine ACallK.spr (l11End_ok _ vc vj vt vl _ w t j 0 _ _ (hp0.sub (by exact by repeat (first | exact Sub.refl _ | assumption | refine Sub.new hc.1 ?_ _ _ | refine Sub.set hc.1 ?_ (by omega) _ | refine Sub.trans ?_ (by assumption)))) (by simp only [inI64]; omega)) hw (by exact by repeat (first | exact Sub.refl _ | assumption | refine Sub.new hc.1 ?_ _ _ | refine Sub.set hc.1 ?_ (by omega) _ | refine Sub.trans ?_ (by assumption))) hnS ?_
          intro vc2 vl2 cj2 H2 S2 w2 hs2 g2 kq m2 hS2
          have hs20 := hs2
          obtain ⟨hn2, Sc2, Sl2, Sj2, rfl, oc2, ol2, oj2⟩ := hs2
          obtain ⟨vk2, vr2, Sk2, Sr2, rfl, rfl, f_20, f_21, f_22, f_23, f_24, f_25, f_26, f_27, f_28, f_29, f_210, f_211, f_212, f_213, f_214, f_215, f_216⟩ := oj2
          have lc2 := oc2.leaf; have cc2 := oc2.one
          have ll2 := ol2.leaf; have cl2 := ol2.one
          have lk2 := f_215.leaf; have ck2 := f_215.one
          have lr2 := f_216.leaf; have cr2 := f_216.one
          simp only [wcs]
          have a2 := kq (H.nxt + 2) _ (fun hm => by have := hnS _ hm; omega) (by simp only [go_sem]; rfl)
          have a3 := kq (H.nxt + 3) _ (fun hm => by have := hnS _ hm; omega) (by simp only [go_sem]; rfl)
          repeat' (first | simp -implicitDefEqProofs only [go_sem] | (simp -implicitDefEqProofs only [a2, a3, lc2, cc2, ll2, cl2, lk2, ck2, lr2, cr2, lj, cj, lt, ct, wr_succ, wr_zero, wr_none, set_set, blk_set_self, Bool.and_self]))
          simp only [go_sem] at hS2
          rw [show probeD w t j = endD w t j 0 by unfold probeD; rw [htag, if_neg e0, if_pos e3, if_neg (by omega), if_pos e4]]
          refine retK_two (SpR.fin (p := endD w t j 0) hw g2 hs20 (fun b hb => by have := hS2 b hb; omega) (fun b hb => ?_) (Nat.le_refl _))
          simp only [blk_set, (show ¬ b = H.nxt by omega), (show ¬ b = H.nxt + 1 by omega), (show ¬ b = H.nxt + 2 by omega), (show ¬ b = H.nxt + 3 by omega), if_false]
        · have d4 : decide ((untag tag).2 = j.op.what) = false := hf e4
          repeat' (first | simp -implicitDefEqProofs only [go_sem] | (simp -implicitDefEqProofs only [lc, cc, ll, cl, lk, ck, lr, cr, lj, cj, lt, ct, wr_succ, wr_zero, wr_none, set_set, Bool.and_self, d0, d1, d2, d3, d4, if_true, if_false, Bool.false_eq_true]) | (refine ACallK.eq (Probe_spec _ _ _ _ f1) ?_; rw [hqq]) | (refine ACallK.eq (KeyCell_spec _ _ _) ?_; rw [keyCell_in hq]) | (refine ixI hu ?_) | (refine rdI hu ?_; rw [htt]) | (refine ACallK.eq (Untag_spec _ _ _ hI) ?_) | ((with_reducible refine adraw_plan [(0, []), (1, []), (2, []), (3, [0, 1]), (4, []), (5, []), (6, []), (7, []), (8, []), (9, []), (10, []), (11, [])] ?_ ?_ ?_); (· kernel_rfl); (· decide +kernel)) | ((with_reducible refine adraw_plan [(0, []), (1, []), (2, []), (3, [0, 1]), (4, []), (5, []), (6, []), (7, []), (8, []), (9, []), (10, []), (11, []), (12, []), (13, [])] ?_ ?_ ?_); (· kernel_rfl); (· decide +kernel)) | ((with_reducible refine adraw_plan [(0, []), (1, []), (2, []), (3, [0, 1]), (4, []), (5, []), (6, []), (7, [])] ?_ ?_ ?_); (· kernel_rfl); (· decide +kernel)))
          refine ACallK.spr (l11End_ok _ vc vj vt vl _ w t j 4 _ _ (hp0.sub (by exact by repeat (first | exact Sub.refl _ | assumption | refine Sub.new hc.1 ?_ _ _ | refine Sub.set hc.1 ?_ (by omega) _ | refine Sub.trans ?_ (by assumption)))) (by simp only [inI64]; omega)) hw (by exact by repeat (first | exact Sub.refl _ | assumption | refine Sub.new hc.1 ?_ _ _ | refine Sub.set hc.1 ?_ (by omega) _ | refine Sub.trans ?_ (by assumption))) hnS ?_
          intro vc2 vl2 cj2 H2 S2 w2 hs2 g2 kq m2 hS2
          have hs20 := hs2
          obtain ⟨hn2, Sc2, Sl2, Sj2, rfl, oc2, ol2, oj2⟩ := hs2
          obtain ⟨vk2, vr2, Sk2, Sr2, rfl, rfl, f_20, f_21, f_22, f_23, f_24, f_25, f_26, f_27, f_28, f_29, f_210, f_211, f_212, f_213, f_214, f_215, f_216⟩ := oj2
          have lc2 := oc2.leaf; have cc2 := oc2.one
          have ll2 := ol2.leaf; have cl2 := ol2.one
          have lk2 := f_215.leaf; have ck2 := f_215.one
          have lr2 := f_216.leaf; have cr2 := f_216.one
          simp only [wcs]
          have a2 := kq (H.nxt + 2) _ (fun hm => by have := hnS _ hm; omega) (by simp only [go_sem]; rfl)
          have a3 := kq (H.nxt + 3) _ (fun hm => by have := hnS _ hm; omega) (by simp only [go_sem]; rfl)
          repeat' (first | simp -implicitDefEqProofs only [go_sem] | (simp -implicitDefEqProofs only [a2, a3, lc2, cc2, ll2, cl2, lk2, ck2, lr2, cr2, lj, cj, lt, ct, wr_succ, wr_zero, wr_none, set_set, blk_set_self, Bool.and_self]))
          simp only [go_sem] at hS2
          rw [show probeD w t j = endD w t j 4 by unfold probeD; rw [htag, if_neg e0, if_pos e3, if_neg (by omega), if_neg e4]]
          refine retK_two (SpR.fin (p := endD w t j 4) hw g2 hs20 (fun b hb => by have := hS2 b hb; omega) (fun b hb => ?_) (Nat.le_refl _))
          simp only [blk_set, (show ¬ b = H.nxt by omega), (show ¬ b = H.nxt + 1 by omega), (show ¬ b = H.nxt + 2 by omega), (show ¬ b = H.nxt + 3 by omega), if_false]
      · have d2 : decide (j.op.kind = 2) = true := hd k1
        repeat' (first | simp -implicitDefEqProofs only [go_sem] | (simp -implicitDefEqProofs only [lc, cc, ll, cl, lk, ck, lr, cr, lj, cj, lt, ct, wr_succ, wr_zero, wr_none, set_set, Bool.and_self, d0, d2, d3, if_true, if_false, Bool.false_eq_true]) | (refine ACallK.eq (Probe_spec _ _ _ _ f1) ?_; rw [hqq]) | (refine ACallK.eq (KeyCell_spec _ _ _) ?_; rw [keyCell_in hq]) | (refine ixI hu ?_) | (refine rdI hu ?_; rw [htt]) | (refine ACallK.eq (Untag_spec _ _ _ hI) ?_) | ((with_reducible refine adraw_plan [(0, []), (1, []), (2, []), (3, [0, 1]), (4, []), (5, []), (6, []), (7, []), (8, []), (9, []), (10, []), (11, [])] ?_ ?_ ?_); (· kernel_rfl); (· decide +kernel)) | ((with_reducible refine adraw_plan [(0, []), (1, []), (2, []), (3, [0, 1]), (4, []), (5, []), (6, []), (7, []), (8, []), (9, []), (10, []), (11, []), (12, []), (13, [])] ?_ ?_ ?_); (· kernel_rfl); (· decide +kernel)) | ((with_reducible refine adraw_plan [(0, []), (1, []), (2, [1]), (3, [])] ?_ ?_ ?_); (· kernel_rfl); (· decide +kernel)) | ((with_reducible refine adraw_plan [(0, []), (1, []), (2, []), (3, [0, 1]), (4, []), (5, []), (6, []), (7, [])] ?_ ?_ ?_); (· kernel_rfl); (· decide +kernel)))
        rw [show probeD w t j = (w, { j with slot := q, what := (untag tag).2, pc := 2 }) by unfold probeD; rw [htag, if_neg e0, if_pos e3, if_pos k1, hqq]]
        refine retK_two (SpR.fin (p := (w, { j with slot := q, what := (untag tag).2, pc := 2 })) hw (Upd.idle (Sub.refl H) hn) ⟨hn, Sc, Sl, Sk ++ Sr, rfl, oc, ol, vk, vr, Sk, Sr, rfl, rfl, f0, f1, f2, f3, f4, (by simp only [inI64]; omega), f6, (by simp only [inI64]; omega), (by simp only [inI64]; omega), f9, f10, f11, f12, f13, f14, f15, f16⟩ (fun b hb => .inl (hnS b hb)) (fun b hb => ?_) (Nat.le_add_right _ 4))
        simp only [go_sem, (show ¬ b = H.nxt by omega), (show ¬ b = H.nxt + 1 by omega), (show ¬ b = H.nxt + 2 by omega), (show ¬ b = H.nxt + 3 by omega), if_false]
    · have d3 : decide ((untag tag).1 = j.op.key) = false := hf e3
      have ek : IntKind.i64.wrap (j.k + 1) = j.k + 1 := wrap_in _ (by omega) (by omega)
      by_cases e5 : j.k < 3
      · have d5 : decide (j.k + 1 < 4) = true := hd (by omega)
        repeat' (first | simp -implicitDefEqProofs only [go_sem] | (simp -implicitDefEqProofs only [lc, cc, ll, cl, lk, ck, lr, cr, lj, cj, lt, ct, wr_succ, wr_zero, wr_none, set_set, Bool.and_self, d0, d3, d5, ek, if_true, if_false, Bool.false_eq_true]) | (refine ACallK.eq (Probe_spec _ _ _ _ f1) ?_; rw [hqq]) | (refine ACallK.eq (KeyCell_spec _ _ _) ?_; rw [keyCell_in hq]) | (refine ixI hu ?_) | (refine rdI hu ?_; rw [htt]) | (refine ACallK.eq (Untag_spec _ _ _ hI) ?_) | ((with_reducible refine adraw_plan [(0, []), (1, []), (2, []), (3, [0, 1]), (4, []), (5, []), (6, []), (7, []), (8, []), (9, []), (10, []), (11, [])] ?_ ?_ ?_); (· kernel_rfl); (· decide +kernel)) | ((with_reducible refine adraw_plan [(0, []), (1, []), (2, []), (3, [0, 1]), (4, []), (5, []), (6, []), (7, []), (8, []), (9, []), (10, []), (11, []), (12, []), (13, [])] ?_ ?_ ?_); (· kernel_rfl); (· decide +kernel)) | ((with_reducible refine adraw_plan [(0, []), (1, []), (2, [1]), (3, [])] ?_ ?_ ?_); (· kernel_rfl); (· decide +kernel)) | ((with_reducible refine adraw_plan [(0, []), (1, []), (2, []), (3, [0, 1]), (4, []), (5, []), (6, []), (7, [])] ?_ ?_ ?_); (· kernel_rfl); (· decide +kernel)))
        rw [show probeD w t j = (w, { j with k := j.k + 1 }) by unfold probeD; rw [htag, if_neg e0, if_neg e3, if_pos e5]]
        refine retK_two (SpR.fin (p := (w, { j with k := j.k + 1 })) hw (Upd.idle (Sub.refl H) hn) ⟨hn, Sc, Sl, Sk ++ Sr, rfl, oc, ol, vk, vr, Sk, Sr, rfl, rfl, f0, f1, f2, f3, f4, f5, (by simp only [inI64]; omega), f7, f8, f9, f10, f11, f12, f13, f14, f15, f16⟩ (fun b hb => .inl (hnS b hb)) (fun b hb => ?_) (Nat.le_add_right _ 4))
        simp only [go_sem, (show ¬ b = H.nxt by omega), (show ¬ b = H.nxt + 1 by omega), (show ¬ b = H.nxt + 2 by omega), (show ¬ b = H.nxt + 3 by omega), if_false]
      · have d5 : decide (j.k + 1 < 4) = false := hf (by omega)
        rcases hkind with k1 | k1
        · have d1 : decide (j.op.kind = 1) = true := hd k1
          repeat' (first | simp -implicitDefEqProofs only [go_sem] | (simp -implicitDefEqProofs only [lc, cc, ll, cl, lk, ck, lr, cr, lj, cj, lt, ct, wr_succ, wr_zero, wr_none, set_set, Bool.and_self, d0, d1, d3, d5, ek, if_true, if_false, Bool.false_eq_true]) | (refine ACallK.eq (Probe_spec _ _ _ _ f1) ?_; rw [hqq]) | (refine ACallK.eq (KeyCell_spec _ _ _) ?_; rw [keyCell_in hq]) | (refine ixI hu ?_) | (refine rdI hu ?_; rw [htt]) | (refine ACallK.eq (Untag_spec _ _ _ hI) ?_) | ((with_reducible refine adraw_plan [(0, []), (1, []), (2, []), (3, [0, 1]), (4, []), (5, []), (6, []), (7, []), (8, []), (9, []), (10, []), (11, [])] ?_ ?_ ?_); (· kernel_rfl); (· decide +kernel)) | ((with_reducible refine adraw_plan [(0, []), (1, []), (2, []), (3, [0, 1]), (4, []), (5, []), (6, []), (7, []), (8, []), (9, []), (10, []), (11, []), (12, []), (13, [])] ?_ ?_ ?_); (· kernel_rfl); (· decide +kernel)) | ((with_reducible refine adraw_plan [(0, []), (1, []), (2, []), (3, [0, 1]), (4, []), (5, []), (6, []), (7, [])] ?_ ?_ ?_); (· kernel_rfl); (· decide +kernel)))
          refine ACallK.spr (l11End_ok _ vc vj vt vl _ w t j 3 _ _ (hp0.sub (by exact by repeat (first | exact Sub.refl _ | assumption | refine Sub.new hc.1 ?_ _ _ | refine Sub.set hc.1 ?_ (by omega) _ | refine Sub.trans ?_ (by assumption)))) (by simp only [inI64]; omega)) hw (by exact by repeat (first | exact Sub.refl _ | assumption | refine Sub.new hc.1 ?_ _ _ | refine Sub.set hc.1 ?_ (by omega) _ | refine Sub.trans ?_ (by assumption))) hnS ?_
          intro vc2 vl2 cj2 H2 S2 w2 hs2 g2 kq m2 hS2
          have hs20 := hs2
          obtain ⟨hn2, Sc2, Sl2, Sj2, rfl, oc2, ol2, oj2⟩ := hs2
          obtain ⟨vk2, vr2, Sk2, Sr2, rfl, rfl, f_20, f_21, f_22, f_23, f_24, f_25, f_26, f_27, f_28, f_29, f_210, f_211, f_212, f_213, f_214, f_215, f_216⟩ := oj2
          have lc2 := oc2.leaf; have cc2 := oc2.one
          have ll2 := ol2.leaf; have cl2 := ol2.one
          have lk2 := f_215.leaf; have ck2 := f_215.one
          have lr2 := f_216.leaf; have cr2 := f_216.one
          simp only [wcs]
          have a2 := kq (H.nxt + 2) _ (fun hm => by have := hnS _ hm; omega) (by simp only [go_sem]; rfl)
          have a3 := kq (H.nxt + 3) _ (fun hm => by have := hnS _ hm; omega) (by simp only [go_sem]; rfl)
          repeat' (first | simp -implicitDefEqProofs only [go_sem] | (simp -implicitDefEqProofs only [a2, a3, lc2, cc2, ll2, cl2, lk2, ck2, lr2, cr2, lj, cj, lt, ct, wr_succ, wr_zero, wr_none, set_set, blk_set_self, Bool.and_self]))
          simp only [go_sem] at hS2
          rw [show probeD w t j = endD w t j 3 by unfold probeD; rw [htag, if_neg e0, if_neg e3, if_neg e5, if_pos k1]]
          refine retK_two (SpR.fin (p := endD w t j 3) hw g2 hs20 (fun b hb => by have := hS2 b hb; omega) (fun b hb => ?_) (Nat.le_refl _))
          simp only [blk_set, (show ¬ b = H.nxt by omega), (show ¬ b = H.nxt + 1 by omega), (show ¬ b = H.nxt + 2 by omega), (show ¬ b = H.nxt + 3 by omega), if_false]
        · have d1 : decide (j.op.kind = 1) = false := hf (by omega)
          repeat' (first | simp -implicitDefEqProofs only [go_sem] | (simp -implicitDefEqProofs only [lc, cc, ll, cl, lk, ck, lr, cr, lj, cj, lt, ct, wr_succ, wr_zero, wr_none, set_set, Bool.and_self, d0, d1, d3, d5, ek, if_true, if_false, Bool.false_eq_true]) | (refine ACallK.eq (Probe_spec _ _ _ _ f1) ?_; rw [hqq]) | (refine ACallK.eq (KeyCell_spec _ _ _) ?_; rw [keyCell_in hq]) | (refine ixI hu ?_) | (refine rdI hu ?_; rw [htt]) | (refine ACallK.eq (Untag_spec _ _ _ hI) ?_) | ((with_reducible refine adraw_plan [(0, []), (1, []), (2, []), (3, [0, 1]), (4, []), (5, []), (6, []), (7, []), (8, []), (9, []), (10, []), (11, [])] ?_ ?_ ?_); (· kernel_rfl); (· decide +kernel)) | ((with_reducible refine adraw_plan [(0, []), (1, []), (2, []), (3, [0, 1]), (4, []), (5, []), (6, []), (7, []), (8, []), (9, []), (10, []), (11, []), (12, []), (13, [])] ?_ ?_ ?_); (· kernel_rfl); (· decide +kernel)) | ((with_reducible refine adraw_plan [(0, []), (1, []), (2, []), (3, [0, 1]), (4, []), (5, []), (6, []), (7, [])] ?_ ?_ ?_); (· kernel_rfl); (· decide +kernel)))
          refine ACallK.spr (l11End_ok _ vc vj vt vl _ w t j 2 _ _ (hp0.sub (by exact by repeat (first | exact Sub.refl _ | assumption | refine Sub.new hc.1 ?_ _ _ | refine Sub.set hc.1 ?_ (by omega) _ | refine Sub.trans ?_ (by assumption)))) (by simp only [inI64]; omega)) hw (by exact by repeat (first | exact Sub.refl _ | assumption | refine Sub.new hc.1 ?_ _ _ | refine Sub.set hc.1 ?_ (by omega) _ | refine Sub.trans ?_ (by assumption))) hnS ?_
          intro vc2 vl2 cj2 H2 S2 w2 hs2 g2 kq m2 hS2
          have hs20 := hs2
          obtain ⟨hn2, Sc2, Sl2, Sj2, rfl, oc2, ol2, oj2⟩ := hs2
          obtain ⟨vk2, vr2, Sk2, Sr2, rfl, rfl, f_20, f_21, f_22, f_23, f_24, f_25, f_26, f_27, f_28, f_29, f_210, f_211, f_212, f_213, f_214, f_215, f_216⟩ := oj2
          have lc2 := oc2.leaf; have cc2 := oc2.one
          have ll2 := ol2.leaf; have cl2 := ol2.one
          have lk2 := f_215.leaf; have ck2 := f_215.one
          have lr2 := f_216.leaf; have cr2 := f_216.one
          simp only [wcs]
          have a2 := kq (H.nxt + 2) _ (fun hm => by have := hnS _ hm; omega) (by simp only [go_sem]; rfl)
          have a3 := kq (H.nxt + 3) _ (fun hm => by have := hnS _ hm; omega) (by simp only [go_sem]; rfl)
          repeat' (first | simp -implicitDefEqProofs only [go_sem] | (simp -implicitDefEqProofs only [a2, a3, lc2, cc2, ll2, cl2, lk2, ck2, lr2, cr2, lj, cj, lt, ct, wr_succ, wr_zero, wr_none, set_set, blk_set_self, Bool.and_self]))
          simp only [go_sem] at hS2
          rw [show probeD w t j = endD w t j 2 by unfold probeD; rw [htag, if_neg e0, if_neg e3, if_neg e5, if_neg (by omega)]]
          refine retK_two (SpR.fin (p := endD w t j 2) hw g2 hs20 (fun b hb => by have := hS2 b hb; omega) (fun b hb => ?_) (Nat.le_refl _))
          simp only [blk_set, (show ¬ b = H.nxt by omega), (show ¬ b = H.nxt + 1 by omega), (show ¬ b = H.nxt + 2 by omega), (show ¬ b = H.nxt + 3 by omega), if_false]
end Go.Proofs.YtipfnhfcoolhaaaGreat.Aw
end
section
namespace Go.Proofs.YtipfnhfcoolhaaaGreat.Aw
open Go Go.RowKit
set_option maxRecDepth 100000
set_option maxHeartbeats 4000000
attribute [-go_sem] wr_eq
theorem own_jz (H : AH) : Own.own H ([] ++ []) [.v (.bool false), .v (.int .i64 0), .v (.string ⟨#[]⟩), .v (.int .i64 0), .v (.int .i64 0), .v (.int .i64 0), .v (.int .i64 0), .v (.int .i64 0), .v (.int .i64 0), .v (.int .i64 0), .v (.int .i64 0), .v (.int .i64 0), .v (.int .i64 0), .v (.int .i64 0), .v (.int .i64 0), .v (.int .i64 0), .v (.slice none 0 0), .v (.slice none 0 0)] job0 := ⟨_, _, [], [], rfl, rfl, inI_z, by show (0 : Nat) ≤ big; exact Nat.zero_le _, inI_z, inI_z, inI_z, inI_z, inI_z, inI_z, inI_z, inI_z, inI_z, inI_z, inI_z, inI_z, inI_z, ownS_none _, ownS_none _⟩
theorem jobAt_busy {w : WorldD} {t : Nat} (hok : worldOk w = true) (ht : t ≤ 3) (hb : (jobOf w t).busy = true) : jobOk (jobOf w t) = true := by
  obtain ⟨_, _, _, _, h5, h6⟩ := worldOk_iff.1 hok
  have hlt : t < w.jobs.length := by omega
  have h7 := h6 t hlt
  have e : jobOf w t = w.jobs[t] := by unfold jobOf; rw [List.getD_eq_getElem?_getD, List.getElem?_eq_getElem hlt]; rfl
  rw [e] at hb ⊢
  rcases jobAt_iff.1 h7 with h | h
  · rw [h] at hb; cases hb
  · exact h.2.1
structure JobK (w : WorldD) (j : JobD) : Prop where
  e : 0 ≤ j.e ∧ j.e ≤ 281474976710655
  slot : 0 ≤ j.slot ∧ j.slot ≤ 3
  kl : j.keys.length ≤ 4
  rl : j.raw.length ≤ 32
  pcs : j.pc = 11 ∨ (j.pc = 0 ∧ keyOk j.op.key = true ∧ (0 ≤ j.k ∧ j.k ≤ 3) ∧ (j.op.kind = 1 ∨ j.op.kind = 2)) ∨ (j.pc = 1 ∧ keyOk j.op.key = true ∧ (0 ≤ j.k ∧ j.k ≤ 3)) ∨ ((2 ≤ j.pc ∧ j.pc ≤ 10) ∧ (0 ≤ j.op.val ∧ j.op.val ≤ 65535) ∧ (j.pc = 8 → 0 ≤ j.k ∧ j.k ≤ 2)) ∨ ((12 ≤ j.pc ∧ j.pc ≤ 15) ∧ (j.pc = 14 → 0 ≤ j.k ∧ j.k ≤ 3) ∧ (j.pc = 15 → 0 ≤ j.k ∧ j.k ≤ 31))
theorem jobK_of {w : WorldD} {j : JobD} (hj : jobOk j = true) : JobK w j := by
  obtain ⟨h1, h2, h3, hs, hw3, he, h4⟩ := (jobOk_iff' j).1 hj
  rw [countOk_eq] at h3
  refine ⟨he, hs, by omega, by omega, ?_⟩
  by_cases p11 : j.pc = 11
  · exact .inl p11
  right
  rcases opOk_cases h1 with ho | ho | ho
  · have hpc : j.pc = 0 ∨ j.pc = 1 := by unfold placeOk at h2; rw [if_neg (by omega), if_pos ho.1] at h2; omega
    have hk : 0 ≤ j.k ∧ j.k ≤ 3 := by unfold countP at h3; rw [if_pos hpc] at h3; exact h3
    rcases hpc with e | e
    · exact .inl ⟨e, ho.2.1, hk, .inl ho.1⟩
    · exact .inr (.inl ⟨e, ho.2.1, hk⟩)
  · have hpc : j.pc = 0 ∨ (2 ≤ j.pc ∧ j.pc ≤ 10) := by unfold placeOk at h2; rw [if_neg (by omega), if_neg (by omega)] at h2; omega
    rcases hpc with e | e
    · have hk : 0 ≤ j.k ∧ j.k ≤ 3 := by unfold countP at h3; rw [if_pos (.inl e)] at h3; exact h3
      exact .inl ⟨e, ho.2.1, hk, .inr ho.1⟩
    · exact .inr (.inr (.inl ⟨e, ho.2.2, fun e8 => by unfold countP at h3; rw [if_neg (by omega), if_pos e8] at h3; exact h3⟩))
  · have hpc : 12 ≤ j.pc ∧ j.pc ≤ 15 := by unfold placeOk at h2; rw [if_pos ho] at h2; omega
    refine .inr (.inr (.inr ⟨hpc, fun e => ?_, fun e => ?_⟩))
    · unfold countP at h3; rw [if_neg (by omega), if_neg (by omega), if_pos e] at h3; omega
    · unfold countP at h3; rw [if_neg (by omega), if_neg (by omega), if_neg (by omega), if_pos e] at h3; omega
theorem l11DoM_ok (W0 : World) (cs : List AV) (w : WorldD) (t : Nat) (S : List Nat) (H : AH) (ho : Own.own H S cs w) (hnd : S.Nodup) (hok : worldOk w = true) (ht : t ≤ 3) (hl : w.log.length ≤ 100000000) (hb : (jobOf w t).busy = true) (hnow : ¬ w.now = 1000000000) :
    ACalls Tryz.prog W0 65 [.agg cs, .v (.int .i64 t)] H (fun r H' => ∃ cs' S', r = .agg cs' ∧ Own.own H' S' cs' (stepD w t) ∧ Upd S H H' S') := by
  refine acallw Tryz.func65 rfl (by kernel_rfl) (by kernel_rfl) fun hc hw => ?_
  have hS := Own.isin ho
  obtain ⟨vc, vj, vt, vl, Sc, Sj, St, Sl, rfl, rfl, oc, oj, ot, ol, is, inw⟩ := ho
  obtain ⟨cok, tok, sok, nok, jl, _⟩ := worldOk_iff.1 hok
  have hlt : t < w.jobs.length := by omega
  have ej : jobOf w t = w.jobs[t] := by unfold jobOf; rw [List.getD_eq_getElem?_getD, List.getElem?_eq_getElem hlt]; rfl
  have hjk := jobK_of (w := w) (jobAt_busy hok ht hb)
  obtain ⟨b, oo, pre, mid, post, S1, S2, S3, rfl, hB, hp, hm, rfl, hown, put⟩ := oj.get t hlt
  rw [← ej] at hown
  have hmv := moveD_ok (w := { w with now := w.now + 1 }) (t := t) (j := { jobOf w t with steps := IntKind.i64.wrap ((jobOf w t).steps + 1) }) cok hb (by have := jobAt_busy hok ht hb; exact this)
  have est : stepD w t = { (moveD { w with now := w.now + 1 } t { jobOf w t with steps := IntKind.i64.wrap ((jobOf w t).steps + 1) }).1 with jobs := (moveD { w with now := w.now + 1 } t { jobOf w t with steps := IntKind.i64.wrap ((jobOf w t).steps + 1) }).1.jobs.set t (moveD { w with now := w.now + 1 } t { jobOf w t with steps := IntKind.i64.wrap ((jobOf w t).steps + 1) }).2 } := by unfold stepD; rw [if_neg hnow, if_pos hb]
  rw [est]
  generalize hjj : jobOf w t = j at *
  clear est ej
  have hS0 : ∀ x ∈ Sc ++ ((b :: (S1 ++ (S2 ++ S3))) ++ (St ++ Sl)), x < H.nxt := fun x hx => hw.lt' (hS x hx)
  obtain ⟨mm1, mm2, mm3, mm4⟩ := Upd.nd3 hnd
  have h13 : ∀ x ∈ S1 ++ S3, (H.blk x).isSome = true := fun x hx => hS x (by simp only [List.mem_append, List.mem_cons] at hx ⊢; grind)
  have hb0 : b < H.nxt := hw.lt hB
  obtain ⟨vk, vr, Sk, Sr, rfl, rfl, f0, f1, f2, f3, f4, f5, f6, f7, f8, f9, f10, f11, f12, f13, f14, f15, f16⟩ := hown
  simp only [Ob.n, List.cons_append, List.nil_append] at hB hp
  have lc := oc.leaf; have cc := oc.one
  have ll := ol.leaf; have cl := ol.one
  have lk := f15.leaf; have ck := f15.one
  have lr := f16.leaf; have cr := f16.one
  have ltt := ot.leaf; have ctt := ot.one
  have enow : IntKind.i64.wrap (w.now + 1) = w.now + 1 := wrap_in _ (by omega) (by omega)
  have hbn : (!j.busy) = false := by rw [hb]; rfl
  have dnow : decide (w.now = 1000000000) = false := decide_eq_false hnow
  have hst : inI64 (IntKind.i64.wrap (j.steps + 1)) := wrap_I _
  have hnw : inI64 (w.now + 1) := by simp only [inI64]; omega
  have hj0 : Own.own H (Sk ++ Sr) _ { j with steps := IntKind.i64.wrap (j.steps + 1) } := ⟨vk, vr, Sk, Sr, rfl, rfl, f0, f1, f2, f3, f4, f5, f6, f7, f8, f9, f10, f11, f12, hst, f14, f15, f16⟩
  have hsp : Sps H (Sc ++ (Sl ++ (Sk ++ Sr))) { w with now := w.now + 1 } { j with steps := IntKind.i64.wrap (j.steps + 1) } vc vl _ := ⟨mm1, Sc, Sl, Sk ++ Sr, rfl, oc, ol, hj0⟩
  have hm1 : ∀ x ∈ Sc ++ (Sl ++ (Sk ++ Sr)), x < H.nxt := fun x hx => hw.lt' (hsp.isin x hx)
  have hvj : leafA (.sl b oo w.jobs.length) = true ∧ cellsA (.sl b oo w.jobs.length) = some [.sl b oo w.jobs.length] := ⟨rfl, rfl⟩
  have hvt : leafA vt = true ∧ cellsA vt = some [vt] := ⟨ltt, ctt⟩
  have hspP : SpP H (Sc ++ (Sl ++ (Sk ++ Sr))) { w with now := w.now + 1 } { j with steps := IntKind.i64.wrap (j.steps + 1) } t vc (.sl b oo w.jobs.length) vt vl _ := ⟨hsp, by show w.log.length ≤ _; omega, hvj, hvt, hnw, ht⟩
  have y0 : ¬ b = H.nxt := by omega
  have y1 : ¬ b = H.nxt + 1 := by omega
  have y2 : ¬ b = H.nxt + 2 := by omega
  have y0' : ¬ H.nxt = b := by omega
  have y1' : ¬ H.nxt + 1 = b := by omega
  have y2' : ¬ H.nxt + 2 = b := by omega
  rcases hjk.pcs with e | e | e | e | e
  · -- tellD
    rw [show moveD ({ w with now := w.now + 1 } : WorldD) t ({ j with steps := IntKind.i64.wrap (j.steps + 1) } : JobD) = tellD { w with now := w.now + 1 } t { j with steps := IntKind.i64.wrap (j.steps + 1) } from by unfold moveD; rw [if_pos (by exact e)]] at hmv ⊢
    have d : ∀ x, decide (j.pc = x) = decide ((11 : Int) = x) := fun x => by rw [e]
    repeat' (first | simp -implicitDefEqProofs only [go_sem] | (simp -implicitDefEqProofs (disch := omega) only [hB, hbn, enow, dnow, Int.toNat_natCast, wr_preA hp, wr_pre0 hp, drop_preA hp, drop_pre0 hp, y0, y1, y2, lc, cc, ll, cl, lk, ck, lr, cr, ltt, ctt, blk_set_self, wr_succ, wr_zero, wr_none, set_set, List.length_append, List.length_cons, Bool.and_self, Bool.not_true, Bool.false_eq_true, if_true, if_false, decide_true, decide_false, Int.reduceEq, Int.reduceLT, d]) | (rw [if_pos (by omega)]) | (with_reducible refine And.intro (by omega) ?_) | ((with_reducible refine adraw_plan [(0, []), (1, []), (2, []), (3, []), (4, []), (5, []), (6, []), (7, []), (8, []), (9, []), (10, []), (11, []), (12, []), (13, []), (14, []), (15, []), (16, [0, 1, 2, 3, 4, 5, 6, 7, 8, 9, 10, 11, 12, 13, 14]), (17, []), (18, [0, 1]), (19, []), (20, []), (21, [])] ?_ ?_ ?_); (· kernel_rfl); (· decide +kernel)))
    refine ACallK.of (l11Rows_ok _ _ { j with steps := IntKind.i64.wrap (j.steps + 1) } _ (Ob.sub (by exact by repeat (first | exact Sub.refl _ | assumption | refine Sub.new hc.1 ?_ _ _ | refine Sub.set hc.1 ?_ (by omega) _ | refine Sub.trans ?_ (by assumption))) (Own.rep hj0)) (by have := hjk.kl; show j.keys.length ≤ _; omega) (by have := hjk.rl; show j.raw.length ≤ _; omega)).cl ?_
    rintro u H3 ⟨⟨s3, S4, o3, F3⟩, k3⟩
    have z3 : Sub H H3 := Sub.trans (by exact by repeat (first | exact Sub.refl _ | assumption | refine Sub.new hc.1 ?_ _ _ | refine Sub.set hc.1 ?_ (by omega) _ | refine Sub.trans ?_ (by assumption))) s3
    have n3 := s3.1; simp only [go_sem] at n3
    have hF3 := F3.2; simp only [go_sem] at hF3
    have a0 := s3.2 H.nxt _ (by simp only [go_sem]; rfl)
    have a1 := s3.2 (H.nxt + 1) _ (by simp only [go_sem]; rfl)
    have a2 := s3.2 (H.nxt + 2) _ (by simp only [go_sem]; rfl)
    have a3 := z3.2 b _ hB
    have l3 := o3.leaf; have p3 := o3.one
    have e0 : ¬ H.nxt = H3.nxt := by omega
    have e1 : ¬ H.nxt + 1 = H3.nxt := by omega
    have e2 : ¬ H.nxt + 2 = H3.nxt := by omega
    have e3 : ¬ b = H3.nxt := by omega
    repeat' (first | simp -implicitDefEqProofs only [go_sem] | (simp -implicitDefEqProofs (disch := omega) only [a0, a1, a2, a3, e0, e1, e2, e3, l3, p3, hB, hbn, enow, dnow, Int.toNat_natCast, wr_preA hp, wr_pre0 hp, drop_preA hp, drop_pre0 hp, y0, y1, y2, lc, cc, ll, cl, lk, ck, lr, cr, ltt, ctt, blk_set_self, wr_succ, wr_zero, wr_none, set_set, List.length_append, List.length_cons, Bool.and_self, Bool.not_true, Bool.false_eq_true, if_true, if_false, decide_true, decide_false, Int.reduceEq, Int.reduceLT]))
    have hSl : ∀ x ∈ Sl, x < H.nxt := fun x hx => hm1 x (List.mem_append_right _ (List.mem_append_left _ hx))
    have hnl : Sl.Nodup := (List.nodup_append.1 (List.nodup_append.1 mm1).2.1).1
    refine app_one (x := tellE { w with now := w.now + 1 } t { j with steps := IntKind.i64.wrap (j.steps + 1) }) (S := Sl) (S2 := S4) (ol.sub (z3.trans ((Sub.refl _).new k3.1 _ _))) (EvD.own_mk (by simp only [tellE, inI64]; omega) (by simp only [tellE, inI64]; omega) f4 hnw f0 f1 f2 f3 f14 (by simp only [tellE, inI64]; omega) hst f12 (o3.sub ((Sub.refl _).new k3.1 _ _))) (nd_lt hnl F3.1 hSl (fun x hx => by have := hF3 x hx; omega)) (k3.1.new _ _) (blk_new_self _ _ _) (fun hm => by have := hSl _ hm; omega) ?_
    intro H4 Sl4 vl4 w4 o4 g4 m4
    have g4' := g4.start (H := H3) ((Sub.refl _).new k3.1 _ _)
    have hN4 : ∀ x, x < H.nxt + 3 → x ∉ Sl → x ∉ Sl ++ S4 := fun x hx h hm => (List.mem_append.1 hm).elim h (fun h => by have := hF3 x h; omega)
    have b0 := g4'.2.1 H.nxt _ (hN4 _ (by omega) (fun h => by have := hSl _ h; omega)) a0
    have b1 := g4'.2.1 (H.nxt + 1) _ (hN4 _ (by omega) (fun h => by have := hSl _ h; omega)) a1
    have b2 := g4'.2.1 (H.nxt + 2) _ (hN4 _ (by omega) (fun h => by have := hSl _ h; omega)) a2
    have b3 := g4'.2.1 b _ (hN4 _ (by omega) (fun h => mm2 (List.mem_append_right _ (List.mem_append_left _ h)))) a3
    have l4 := o4.leaf; have p4 := o4.one
    have n4 := g4'.1
    repeat' (first | simp -implicitDefEqProofs only [go_sem] | (simp -implicitDefEqProofs (disch := omega) only [b0, b1, b2, b3, y0', y1', y2', l4, p4, hB, hbn, enow, dnow, Int.toNat_natCast, wr_preA hp, wr_pre0 hp, drop_preA hp, drop_pre0 hp, y0, y1, y2, lc, cc, ll, cl, lk, ck, lr, cr, ltt, ctt, blk_set_self, wr_succ, wr_zero, wr_none, set_set, List.length_append, List.length_cons, Bool.and_self, Bool.not_true, Bool.false_eq_true, if_true, if_false, decide_true, decide_false, Int.reduceEq, Int.reduceLT]) | (with_reducible refine And.intro (by omega) ?_) | fail)
    have kc : OwnS H4 Sc vc w.cells := (g4'.own (oc.sub z3) (fun x hx hm => (List.mem_append.1 hm).elim (fun h => (List.nodup_append.1 mm1).2.2 x hx x (List.mem_append_left _ h) rfl) (fun h => by have := hF3 x h; have := hm1 x (List.mem_append_left _ hx); omega)))
    have hS4 : ∀ x ∈ Sl4, x ∈ Sl ∨ H.nxt + 3 ≤ x := fun x hx => (g4'.2.2.1 x hx).elim (fun h => (List.mem_append.1 h).imp id (hF3 x)) (fun h => .inr (by omega))
    have gZ : Upd (Sc ++ (Sl ++ (Sk ++ Sr))) H H4 (Sc ++ (Sl4 ++ ([] ++ []))) := by
      refine ⟨Nat.le_trans z3.1 g4'.1, fun x B hx hB => g4'.2.1 x B (fun hm => (List.mem_append.1 hm).elim (fun h => hx (List.mem_append_right _ (List.mem_append_left _ h))) (fun h => by have := hF3 x h; have := hw.lt hB; omega)) (z3.2 x B hB), fun x hx => ?_, ?_⟩
      · simp only [List.mem_append, List.not_mem_nil, or_false] at hx ⊢
        rcases hx with h | h
        · exact .inl (.inl h)
        · rcases hS4 x h with h | h
          · exact .inl (.inr (.inl h))
          · exact .inr (by omega)
      · have k1 := mm1
        have k2 := g4'.2.2.2
        have k3 : ∀ x ∈ Sc, x < H.nxt := fun x hx => hm1 x (List.mem_append_left _ hx)
        simp only [List.nodup_append, List.mem_append, List.append_nil] at k1 ⊢
        refine ⟨k1.1, k2, fun x hx y hy => ?_⟩
        rcases hS4 y hy with h | h
        · exact k1.2.2 x hx y (.inl h)
        · have := k3 x hx; omega
    have hSF : ∀ x ∈ Sc ++ (Sl4 ++ ([] ++ [])), x < H.nxt ∨ H.nxt + 3 ≤ x := fun x hx => by
      simp only [List.mem_append, List.not_mem_nil, or_false] at hx
      rcases hx with h | h
      · exact .inl (hm1 x (List.mem_append_left _ h))
      · exact (hS4 x h).imp (hSl x) id
    refine retK_one ⟨_, _, rfl, world_put (w := w) (w' := (tellD { w with now := w.now + 1 } t { j with steps := IntKind.i64.wrap (j.steps + 1) }).1) (j' := job0) (t := t) (H1 := H4) hnd hS0 w4 gZ kc o4 (own_jz _) ot hw rfl rfl is hnw put h13 ?_ ?_ ?_⟩
    · simp only [blk_set, y1, if_false, if_true]; rfl
    · intro z hz hz2
      have hz3 : z < H.nxt ∨ H.nxt + 3 ≤ z := hz2.elim .inl (fun h => hSF z h)
      simp only [blk_set, (show ¬ z = H.nxt by omega), (show ¬ z = H.nxt + 1 by omega), (show ¬ z = H.nxt + 2 by omega), if_neg hz, if_false]
    · exact Nat.le_refl _
  · -- probeD
    obtain ⟨e, hkey, hk, hkind⟩ := e
    have d : ∀ x, decide (j.pc = x) = decide ((0 : Int) = x) := fun x => by rw [e]
    rw [show moveD ({ w with now := w.now + 1 } : WorldD) t ({ j with steps := IntKind.i64.wrap (j.steps + 1) } : JobD) = probeD { w with now := w.now + 1 } t { j with steps := IntKind.i64.wrap (j.steps + 1) } from by unfold moveD; rw [if_neg (by show ¬ j.pc = 11; omega), if_pos (by exact e)]] at hmv ⊢
    repeat' (first | simp -implicitDefEqProofs only [go_sem] | (simp -implicitDefEqProofs (disch := omega) only [hB, hbn, enow, dnow, Int.toNat_natCast, wr_preA hp, wr_pre0 hp, drop_preA hp, drop_pre0 hp, y0, y1, y2, lc, cc, ll, cl, lk, ck, lr, cr, ltt, ctt, blk_set_self, wr_succ, wr_zero, wr_none, set_set, List.length_append, List.length_cons, Bool.and_self, Bool.not_true, Bool.false_eq_true, if_true, if_false, decide_true, decide_false, Int.reduceEq, Int.reduceLT, d]) | (rw [if_pos (by omega)]) | (with_reducible refine And.intro (by omega) ?_) | fail)
    refine ACallK.spr (H0 := H) (l11Probe_ok _ vc (.sl b oo w.jobs.length) vt vl _ { w with now := w.now + 1 } t { j with steps := IntKind.i64.wrap (j.steps + 1) } _ _ (hspP.sub (by exact by repeat (first | exact Sub.refl _ | assumption | refine Sub.new hc.1 ?_ _ _ | refine Sub.set hc.1 ?_ (by omega) _ | refine Sub.trans ?_ (by assumption)))) cok hkey hk hkind) hw (by exact by repeat (first | exact Sub.refl _ | assumption | refine Sub.new hc.1 ?_ _ _ | refine Sub.set hc.1 ?_ (by omega) _ | refine Sub.trans ?_ (by assumption))) hm1 ?_
    intro vc2 vl2 cj2 H2 S2 w2 hs2 g2 kq m2 hS2
    have hs20 := hs2
    obtain ⟨hn2, Sc2, Sl2, Sj2, rfl, oc2, ol2, oj2⟩ := hs2
    obtain ⟨vk2, vr2, Sk2, Sr2, rfl, rfl, f_20, f_21, f_22, f_23, f_24, f_25, f_26, f_27, f_28, f_29, f_210, f_211, f_212, f_213, f_214, f_215, f_216⟩ := oj2
    have lc2 := oc2.leaf; have cc2 := oc2.one
    have ll2 := ol2.leaf; have cl2 := ol2.one
    have lk2 := f_215.leaf; have ck2 := f_215.one
    have lr2 := f_216.leaf; have cr2 := f_216.one
    simp only [wcs]
    have a0 := kq H.nxt _ (fun hm => by have := hm1 _ hm; omega) (by simp only [go_sem]; rfl)
    have a1 := kq (H.nxt + 1) _ (fun hm => by have := hm1 _ hm; omega) (by simp only [go_sem]; rfl)
    have a2 := kq (H.nxt + 2) _ (fun hm => by have := hm1 _ hm; omega) (by simp only [go_sem]; rfl)
    have a3 := kq b _ mm2 (by simp only [blk_new, blk_set, nxt_new, nxt_set, y0, y1, y2, if_false]; exact hB)
    simp only [go_sem] at hS2
    repeat' (first | simp -implicitDefEqProofs only [go_sem] | (simp -implicitDefEqProofs (disch := omega) only [a0, a1, a2, a3, y0', y1', y2', lc2, cc2, ll2, cl2, lk2, ck2, lr2, cr2, hB, hbn, enow, dnow, Int.toNat_natCast, wr_preA hp, wr_pre0 hp, drop_preA hp, drop_pre0 hp, y0, y1, y2, lc, cc, ll, cl, lk, ck, lr, cr, ltt, ctt, blk_set_self, wr_succ, wr_zero, wr_none, set_set, List.length_append, List.length_cons, Bool.and_self, Bool.not_true, Bool.false_eq_true, if_true, if_false, decide_true, decide_false, Int.reduceEq, Int.reduceLT]) | (with_reducible refine And.intro (by omega) ?_) | fail)
    have oj_ : Own.own H2 (Sk2 ++ Sr2) _ (probeD { w with now := w.now + 1 } t { j with steps := IntKind.i64.wrap (j.steps + 1) }).2 := ⟨vk2, vr2, Sk2, Sr2, rfl, rfl, f_20, f_21, f_22, f_23, f_24, f_25, f_26, f_27, f_28, f_29, f_210, f_211, f_212, f_213, f_214, f_215, f_216⟩
    obtain ⟨r1, r2, r3, r4⟩ : (probeD { w with now := w.now + 1 } t { j with steps := IntKind.i64.wrap (j.steps + 1) }).1.jobs = w.jobs ∧ (probeD { w with now := w.now + 1 } t { j with steps := IntKind.i64.wrap (j.steps + 1) }).1.todo = w.todo ∧ (probeD { w with now := w.now + 1 } t { j with steps := IntKind.i64.wrap (j.steps + 1) }).1.serial = w.serial ∧ (probeD { w with now := w.now + 1 } t { j with steps := IntKind.i64.wrap (j.steps + 1) }).1.now = w.now + 1 := hmv.1.2
    refine retK_one ⟨_, _, rfl, world_put (w := w) (w' := (probeD { w with now := w.now + 1 } t { j with steps := IntKind.i64.wrap (j.steps + 1) }).1) (j' := (probeD { w with now := w.now + 1 } t { j with steps := IntKind.i64.wrap (j.steps + 1) }).2) (t := t) (H1 := H2) hnd hS0 w2 g2 oc2 ol2 oj_ ot hw r1 r2 (by rw [r3]; exact is) (by rw [r4]; exact hnw) put h13 ?_ ?_ ?_⟩
    · simp only [blk_set, y1, if_false, if_true]; rfl
    · intro z hz hz2
      have hz3 : z < H.nxt ∨ H.nxt + 3 ≤ z := hz2.elim .inl (fun h => hS2 z h)
      simp only [blk_set, (show ¬ z = H.nxt by omega), (show ¬ z = H.nxt + 1 by omega), (show ¬ z = H.nxt + 2 by omega), if_neg hz, if_false]
    · exact Nat.le_refl _
  · -- claimD
    obtain ⟨e, hkey, hk⟩ := e
    have d : ∀ x, decide (j.pc = x) = decide ((1 : Int) = x) := fun x => by rw [e]
    rw [show moveD ({ w with now := w.now + 1 } : WorldD) t ({ j with steps := IntKind.i64.wrap (j.steps + 1) } : JobD) = claimD { w with now := w.now + 1 } t { j with steps := IntKind.i64.wrap (j.steps + 1) } from by unfold moveD; rw [if_neg (by show ¬ j.pc = 11; omega), if_neg (by show ¬ j.pc = 0; omega), if_pos (by exact e)]] at hmv ⊢
    repeat' (first | simp -implicitDefEqProofs only [go_sem] | (simp -implicitDefEqProofs (disch := omega) only [hB, hbn, enow, dnow, Int.toNat_natCast, wr_preA hp, wr_pre0 hp, drop_preA hp, drop_pre0 hp, y0, y1, y2, lc, cc, ll, cl, lk, ck, lr, cr, ltt, ctt, blk_set_self, wr_succ, wr_zero, wr_none, set_set, List.length_append, List.length_cons, Bool.and_self, Bool.not_true, Bool.false_eq_true, if_true, if_false, decide_true, decide_false, Int.reduceEq, Int.reduceLT, d]) | (rw [if_pos (by omega)]) | (with_reducible refine And.intro (by omega) ?_) | fail)
    refine ACallK.spr (H0 := H) (l11Claim_ok _ vc (.sl b oo w.jobs.length) vt vl _ { w with now := w.now + 1 } t { j with steps := IntKind.i64.wrap (j.steps + 1) } _ _ (hspP.sub (by exact by repeat (first | exact Sub.refl _ | assumption | refine Sub.new hc.1 ?_ _ _ | refine Sub.set hc.1 ?_ (by omega) _ | refine Sub.trans ?_ (by assumption)))) cok hkey hk (by have := tagged_W j.op.key j.op.what; unfold wordP at this; show inI64 (tagged j.op.key j.op.what); simp only [inI64]; omega)) hw (by exact by repeat (first | exact Sub.refl _ | assumption | refine Sub.new hc.1 ?_ _ _ | refine Sub.set hc.1 ?_ (by omega) _ | refine Sub.trans ?_ (by assumption))) hm1 ?_
    intro vc2 vl2 cj2 H2 S2 w2 hs2 g2 kq m2 hS2
    have hs20 := hs2
    obtain ⟨hn2, Sc2, Sl2, Sj2, rfl, oc2, ol2, oj2⟩ := hs2
    obtain ⟨vk2, vr2, Sk2, Sr2, rfl, rfl, f_20, f_21, f_22, f_23, f_24, f_25, f_26, f_27, f_28, f_29, f_210, f_211, f_212, f_213, f_214, f_215, f_216⟩ := oj2
    have lc2 := oc2.leaf; have cc2 := oc2.one
    have ll2 := ol2.leaf; have cl2 := ol2.one
    have lk2 := f_215.leaf; have ck2 := f_215.one
    have lr2 := f_216.leaf; have cr2 := f_216.one
    simp only [wcs]
    have a0 := kq H.nxt _ (fun hm => by have := hm1 _ hm; omega) (by simp only [go_sem]; rfl)
    have a1 := kq (H.nxt + 1) _ (fun hm => by have := hm1 _ hm; omega) (by simp only [go_sem]; rfl)
    have a2 := kq (H.nxt + 2) _ (fun hm => by have := hm1 _ hm; omega) (by simp only [go_sem]; rfl)
    have a3 := kq b _ mm2 (by simp only [blk_new, blk_set, nxt_new, nxt_set, y0, y1, y2, if_false]; exact hB)
    simp only [go_sem] at hS2
    repeat' (first | simp -implicitDefEqProofs only [go_sem] | (simp -implicitDefEqProofs (disch := omega) only [a0, a1, a2, a3, y0', y1', y2', lc2, cc2, ll2, cl2, lk2, ck2, lr2, cr2, hB, hbn, enow, dnow, Int.toNat_natCast, wr_preA hp, wr_pre0 hp, drop_preA hp, drop_pre0 hp, y0, y1, y2, lc, cc, ll, cl, lk, ck, lr, cr, ltt, ctt, blk_set_self, wr_succ, wr_zero, wr_none, set_set, List.length_append, List.length_cons, Bool.and_self, Bool.not_true, Bool.false_eq_true, if_true, if_false, decide_true, decide_false, Int.reduceEq, Int.reduceLT]) | (with_reducible refine And.intro (by omega) ?_) | fail)
    have oj_ : Own.own H2 (Sk2 ++ Sr2) _ (claimD { w with now := w.now + 1 } t { j with steps := IntKind.i64.wrap (j.steps + 1) }).2 := ⟨vk2, vr2, Sk2, Sr2, rfl, rfl, f_20, f_21, f_22, f_23, f_24, f_25, f_26, f_27, f_28, f_29, f_210, f_211, f_212, f_213, f_214, f_215, f_216⟩
    obtain ⟨r1, r2, r3, r4⟩ : (claimD { w with now := w.now + 1 } t { j with steps := IntKind.i64.wrap (j.steps + 1) }).1.jobs = w.jobs ∧ (claimD { w with now := w.now + 1 } t { j with steps := IntKind.i64.wrap (j.steps + 1) }).1.todo = w.todo ∧ (claimD { w with now := w.now + 1 } t { j with steps := IntKind.i64.wrap (j.steps + 1) }).1.serial = w.serial ∧ (claimD { w with now := w.now + 1 } t { j with steps := IntKind.i64.wrap (j.steps + 1) }).1.now = w.now + 1 := hmv.1.2
    refine retK_one ⟨_, _, rfl, world_put (w := w) (w' := (claimD { w with now := w.now + 1 } t { j with steps := IntKind.i64.wrap (j.steps + 1) }).1) (j' := (claimD { w with now := w.now + 1 } t { j with steps := IntKind.i64.wrap (j.steps + 1) }).2) (t := t) (H1 := H2) hnd hS0 w2 g2 oc2 ol2 oj_ ot hw r1 r2 (by rw [r3]; exact is) (by rw [r4]; exact hnw) put h13 ?_ ?_ ?_⟩
    · simp only [blk_set, y1, if_false, if_true]; rfl
    · intro z hz hz2
      have hz3 : z < H.nxt ∨ H.nxt + 3 ≤ z := hz2.elim .inl (fun h => hS2 z h)
      simp only [blk_set, (show ¬ z = H.nxt by omega), (show ¬ z = H.nxt + 1 by omega), (show ¬ z = H.nxt + 2 by omega), if_neg hz, if_false]
    · exact Nat.le_refl _
  · -- writeD
    obtain ⟨e, hval, hk⟩ := e
    have d1 : decide (j.pc = 11) = false := decide_eq_false (by omega)
    have d2 : decide (j.pc = 0) = false := decide_eq_false (by omega)
    have d3 : decide (j.pc = 1) = false := decide_eq_false (by omega)
    have d4 : decide (j.pc < 12) = true := decide_eq_true (by omega)
    rw [show moveD ({ w with now := w.now + 1 } : WorldD) t ({ j with steps := IntKind.i64.wrap (j.steps + 1) } : JobD) = writeD { w with now := w.now + 1 } t { j with steps := IntKind.i64.wrap (j.steps + 1) } from by unfold moveD; rw [if_neg (by show ¬ j.pc = 11; omega), if_neg (by show ¬ j.pc = 0; omega), if_neg (by show ¬ j.pc = 1; omega), if_pos (by show j.pc < 12; omega)]] at hmv ⊢
    repeat' (first | simp -implicitDefEqProofs only [go_sem] | (simp -implicitDefEqProofs (disch := omega) only [hB, hbn, enow, dnow, Int.toNat_natCast, wr_preA hp, wr_pre0 hp, drop_preA hp, drop_pre0 hp, y0, y1, y2, lc, cc, ll, cl, lk, ck, lr, cr, ltt, ctt, blk_set_self, wr_succ, wr_zero, wr_none, set_set, List.length_append, List.length_cons, Bool.and_self, Bool.not_true, Bool.false_eq_true, if_true, if_false, decide_true, decide_false, Int.reduceEq, Int.reduceLT, d1, d2, d3, d4]) | (rw [if_pos (by omega)]) | (with_reducible refine And.intro (by omega) ?_) | fail)
    refine ACallK.spr (H0 := H) (l11Write_ok _ vc (.sl b oo w.jobs.length) vt vl _ { w with now := w.now + 1 } t { j with steps := IntKind.i64.wrap (j.steps + 1) } _ _ (hspP.sub (by exact by repeat (first | exact Sub.refl _ | assumption | refine Sub.new hc.1 ?_ _ _ | refine Sub.set hc.1 ?_ (by omega) _ | refine Sub.trans ?_ (by assumption)))) ⟨cok, hjk.e, hjk.slot, hval⟩ e hk) hw (by exact by repeat (first | exact Sub.refl _ | assumption | refine Sub.new hc.1 ?_ _ _ | refine Sub.set hc.1 ?_ (by omega) _ | refine Sub.trans ?_ (by assumption))) hm1 ?_
    intro vc2 vl2 cj2 H2 S2 w2 hs2 g2 kq m2 hS2
    have hs20 := hs2
    obtain ⟨hn2, Sc2, Sl2, Sj2, rfl, oc2, ol2, oj2⟩ := hs2
    obtain ⟨vk2, vr2, Sk2, Sr2, rfl, rfl, f_20, f_21, f_22, f_23, f_24, f_25, f_26, f_27, f_28, f_29, f_210, f_211, f_212, f_213, f_214, f_215, f_216⟩ := oj2
    have lc2 := oc2.leaf; have cc2 := oc2.one
    have ll2 := ol2.leaf; have cl2 := ol2.one
    have lk2 := f_215.leaf; have ck2 := f_215.one
    have lr2 := f_216.leaf; have cr2 := f_216.one
    simp only [wcs]
    have a0 := kq H.nxt _ (fun hm => by have := hm1 _ hm; omega) (by simp only [go_sem]; rfl)
    have a1 := kq (H.nxt + 1) _ (fun hm => by have := hm1 _ hm; omega) (by simp only [go_sem]; rfl)
    have a2 := kq (H.nxt + 2) _ (fun hm => by have := hm1 _ hm; omega) (by simp only [go_sem]; rfl)
    have a3 := kq b _ mm2 (by simp only [blk_new, blk_set, nxt_new, nxt_set, y0, y1, y2, if_false]; exact hB)
    simp only [go_sem] at hS2
    repeat' (first | simp -implicitDefEqProofs only [go_sem] | (simp -implicitDefEqProofs (disch := omega) only [a0, a1, a2, a3, y0', y1', y2', lc2, cc2, ll2, cl2, lk2, ck2, lr2, cr2, hB, hbn, enow, dnow, Int.toNat_natCast, wr_preA hp, wr_pre0 hp, drop_preA hp, drop_pre0 hp, y0, y1, y2, lc, cc, ll, cl, lk, ck, lr, cr, ltt, ctt, blk_set_self, wr_succ, wr_zero, wr_none, set_set, List.length_append, List.length_cons, Bool.and_self, Bool.not_true, Bool.false_eq_true, if_true, if_false, decide_true, decide_false, Int.reduceEq, Int.reduceLT]) | (with_reducible refine And.intro (by omega) ?_) | fail)
    have oj_ : Own.own H2 (Sk2 ++ Sr2) _ (writeD { w with now := w.now + 1 } t { j with steps := IntKind.i64.wrap (j.steps + 1) }).2 := ⟨vk2, vr2, Sk2, Sr2, rfl, rfl, f_20, f_21, f_22, f_23, f_24, f_25, f_26, f_27, f_28, f_29, f_210, f_211, f_212, f_213, f_214, f_215, f_216⟩
    obtain ⟨r1, r2, r3, r4⟩ : (writeD { w with now := w.now + 1 } t { j with steps := IntKind.i64.wrap (j.steps + 1) }).1.jobs = w.jobs ∧ (writeD { w with now := w.now + 1 } t { j with steps := IntKind.i64.wrap (j.steps + 1) }).1.todo = w.todo ∧ (writeD { w with now := w.now + 1 } t { j with steps := IntKind.i64.wrap (j.steps + 1) }).1.serial = w.serial ∧ (writeD { w with now := w.now + 1 } t { j with steps := IntKind.i64.wrap (j.steps + 1) }).1.now = w.now + 1 := hmv.1.2
    refine retK_one ⟨_, _, rfl, world_put (w := w) (w' := (writeD { w with now := w.now + 1 } t { j with steps := IntKind.i64.wrap (j.steps + 1) }).1) (j' := (writeD { w with now := w.now + 1 } t { j with steps := IntKind.i64.wrap (j.steps + 1) }).2) (t := t) (H1 := H2) hnd hS0 w2 g2 oc2 ol2 oj_ ot hw r1 r2 (by rw [r3]; exact is) (by rw [r4]; exact hnw) put h13 ?_ ?_ ?_⟩
    · simp only [blk_set, y1, if_false, if_true]; rfl
    · intro z hz hz2
      have hz3 : z < H.nxt ∨ H.nxt + 3 ≤ z := hz2.elim .inl (fun h => hS2 z h)
      simp only [blk_set, (show ¬ z = H.nxt by omega), (show ¬ z = H.nxt + 1 by omega), (show ¬ z = H.nxt + 2 by omega), if_neg hz, if_false]
    · exact Nat.le_refl _
  · -- flushD
    obtain ⟨e, hk4, hk5⟩ := e
    have d1 : decide (j.pc = 11) = false := decide_eq_false (by omega)
    have d2 : decide (j.pc = 0) = false := decide_eq_false (by omega)
    have d3 : decide (j.pc = 1) = false := decide_eq_false (by omega)
    have d4 : decide (j.pc < 12) = false := decide_eq_false (by omega)
    rw [show moveD ({ w with now := w.now + 1 } : WorldD) t ({ j with steps := IntKind.i64.wrap (j.steps + 1) } : JobD) = flushD { w with now := w.now + 1 } t { j with steps := IntKind.i64.wrap (j.steps + 1) } from by unfold moveD; rw [if_neg (by show ¬ j.pc = 11; omega), if_neg (by show ¬ j.pc = 0; omega), if_neg (by show ¬ j.pc = 1; omega), if_neg (by show ¬ j.pc < 12; omega)]] at hmv ⊢
    repeat' (first | simp -implicitDefEqProofs only [go_sem] | (simp -implicitDefEqProofs (disch := omega) only [hB, hbn, enow, dnow, Int.toNat_natCast, wr_preA hp, wr_pre0 hp, drop_preA hp, drop_pre0 hp, y0, y1, y2, lc, cc, ll, cl, lk, ck, lr, cr, ltt, ctt, blk_set_self, wr_succ, wr_zero, wr_none, set_set, List.length_append, List.length_cons, Bool.and_self, Bool.not_true, Bool.false_eq_true, if_true, if_false, decide_true, decide_false, Int.reduceEq, Int.reduceLT, d1, d2, d3, d4]) | (rw [if_pos (by omega)]) | (with_reducible refine And.intro (by omega) ?_) | fail)
    refine ACallK.spr (H0 := H) (l11Flush_ok _ vc (.sl b oo w.jobs.length) vt vl _ { w with now := w.now + 1 } t { j with steps := IntKind.i64.wrap (j.steps + 1) } _ _ (hspP.sub (by exact by repeat (first | exact Sub.refl _ | assumption | refine Sub.new hc.1 ?_ _ _ | refine Sub.set hc.1 ?_ (by omega) _ | refine Sub.trans ?_ (by assumption)))) cok hjk.e e hk4 hk5 (by have := hjk.kl; show j.keys.length ≤ _; omega) (by have := hjk.rl; show j.raw.length ≤ _; omega)) hw (by exact by repeat (first | exact Sub.refl _ | assumption | refine Sub.new hc.1 ?_ _ _ | refine Sub.set hc.1 ?_ (by omega) _ | refine Sub.trans ?_ (by assumption))) hm1 ?_
    intro vc2 vl2 cj2 H2 S2 w2 hs2 g2 kq m2 hS2
    have hs20 := hs2
    obtain ⟨hn2, Sc2, Sl2, Sj2, rfl, oc2, ol2, oj2⟩ := hs2
    obtain ⟨vk2, vr2, Sk2, Sr2, rfl, rfl, f_20, f_21, f_22, f_23, f_24, f_25, f_26, f_27, f_28, f_29, f_210, f_211, f_212, f_213, f_214, f_215, f_216⟩ := oj2
    have lc2 := oc2.leaf; have cc2 := oc2.one
    have ll2 := ol2.leaf; have cl2 := ol2.one
    have lk2 := f_215.leaf; have ck2 := f_215.one
    have lr2 := f_216.leaf; have cr2 := f_216.one
    simp only [wcs]
    have a0 := kq H.nxt _ (fun hm => by have := hm1 _ hm; omega) (by simp only [go_sem]; rfl)
    have a1 := kq (H.nxt + 1) _ (fun hm => by have := hm1 _ hm; omega) (by simp only [go_sem]; rfl)
    have a2 := kq (H.nxt + 2) _ (fun hm => by have := hm1 _ hm; omega) (by simp only [go_sem]; rfl)
    have a3 := kq b _ mm2 (by simp only [blk_new, blk_set, nxt_new, nxt_set, y0, y1, y2, if_false]; exact hB)
    simp only [go_sem] at hS2
    repeat' (first | simp -implicitDefEqProofs only [go_sem] | (simp -implicitDefEqProofs (disch := omega) only [a0, a1, a2, a3, y0', y1', y2', lc2, cc2, ll2, cl2, lk2, ck2, lr2, cr2, hB, hbn, enow, dnow, Int.toNat_natCast, wr_preA hp, wr_pre0 hp, drop_preA hp, drop_pre0 hp, y0, y1, y2, lc, cc, ll, cl, lk, ck, lr, cr, ltt, ctt, blk_set_self, wr_succ, wr_zero, wr_none, set_set, List.length_append, List.length_cons, Bool.and_self, Bool.not_true, Bool.false_eq_true, if_true, if_false, decide_true, decide_false, Int.reduceEq, Int.reduceLT]) | (with_reducible refine And.intro (by omega) ?_) | fail)
    have oj_ : Own.own H2 (Sk2 ++ Sr2) _ (flushD { w with now := w.now + 1 } t { j with steps := IntKind.i64.wrap (j.steps + 1) }).2 := ⟨vk2, vr2, Sk2, Sr2, rfl, rfl, f_20, f_21, f_22, f_23, f_24, f_25, f_26, f_27, f_28, f_29, f_210, f_211, f_212, f_213, f_214, f_215, f_216⟩
    obtain ⟨r1, r2, r3, r4⟩ : (flushD { w with now := w.now + 1 } t { j with steps := IntKind.i64.wrap (j.steps + 1) }).1.jobs = w.jobs ∧ (flushD { w with now := w.now + 1 } t { j with steps := IntKind.i64.wrap (j.steps + 1) }).1.todo = w.todo ∧ (flushD { w with now := w.now + 1 } t { j with steps := IntKind.i64.wrap (j.steps + 1) }).1.serial = w.serial ∧ (flushD { w with now := w.now + 1 } t { j with steps := IntKind.i64.wrap (j.steps + 1) }).1.now = w.now + 1 := hmv.1.2
    refine retK_one ⟨_, _, rfl, world_put (w := w) (w' := (flushD { w with now := w.now + 1 } t { j with steps := IntKind.i64.wrap (j.steps + 1) }).1) (j' := (flushD { w with now := w.now + 1 } t { j with steps := IntKind.i64.wrap (j.steps + 1) }).2) (t := t) (H1 := H2) hnd hS0 w2 g2 oc2 ol2 oj_ ot hw r1 r2 (by rw [r3]; exact is) (by rw [r4]; exact hnw) put h13 ?_ ?_ ?_⟩
    · simp only [blk_set, y1, if_false, if_true]; rfl
    · intro z hz hz2
      have hz3 : z < H.nxt ∨ H.nxt + 3 ≤ z := hz2.elim .inl (fun h => hS2 z h)
      simp only [blk_set, (show ¬ z = H.nxt by omega), (show ¬ z = H.nxt + 1 by omega), (show ¬ z = H.nxt + 2 by omega), if_neg hz, if_false]
    · exact Nat.le_refl _
end Go.Proofs.YtipfnhfcoolhaaaGreat.Aw
end
