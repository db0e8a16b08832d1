/- Parts of a proof: Gm. -/
import Derived.Test.YtipfnhfcoolhaaaGreatK08
set_option linter.unusedVariables false
set_option linter.unusedSimpArgs false
namespace Go.Proofs.YtipfnhfcoolhaaaGreat.Aw
open Go Go.RowKit
set_option maxRecDepth 100000
set_option maxHeartbeats 2000000
attribute [-go_sem] wr_eq
theorem mv2_ok (W0 : World) (bw bj oj t : Nat) (vj vt : AV) (pre post : List AV) (w : WorldD) (j : JobD) (S : List Nat) (H : AH) (hp : MvP H S bw bj oj t vj vt pre post w j) (hok : cellsOk w.cells = true) (he : 0 ≤ j.e ∧ j.e ≤ 281474976710655) (e : j.pc = 2) :
    ACalls Tryz.prog W0 87 [mvA bw bj oj t] H (fun r H' => r = .tup [] ∧ MvR H S bw bj vj vt pre post (writeD w t j) H') := by
  refine acallw Tryz.func87 rfl (by kernel_rfl) (by kernel_rfl) fun hc hw => ?_
  have hp0 := hp
  obtain ⟨⟨hn, vc, vl, cj, Sc, Sl, Sj, rfl, bB, jB, oc, ol, oj_⟩, hll, hj, ht, hnw, htt, hpl⟩ := hp
  obtain ⟨vk, vr, Sk, Sr, rfl, rfl, f0, f1, f2, f3, f4, f5, f6, f7, f8, f9, f10, f11, f12, f13, f14, f15, f16⟩ := oj_
  have lc := oc.leaf; have cc := oc.one
  have ll := ol.leaf; have cl := ol.one
  have lk := f15.leaf; have ck := f15.one
  have lr := f16.leaf; have cr := f16.one
  obtain ⟨lj, cj⟩ := hj
  obtain ⟨lt, ct⟩ := ht
  have hm0 : Mv H (bw :: bj :: (Sc ++ (Sl ++ (Sk ++ Sr)))) bw bj vj vt pre post w j := ⟨hn, vc, vl, _, Sc, Sl, Sk ++ Sr, rfl, bB, jB, oc, ol, vk, vr, Sk, Sr, rfl, rfl, f0, f1, f2, f3, f4, f5, f6, f7, f8, f9, f10, f11, f12, f13, f14, f15, f16⟩
  have hnS : ∀ b ∈ bw :: bj :: (Sc ++ (Sl ++ (Sk ++ Sr))), b < H.nxt := fun b hb => hw.lt' (hm0.isin b hb)
  obtain ⟨hnw1, hnj1, hne, hne', hU, nwU, njU, mC, mL, mK, mR, z0, z1, z2, y0, z0', y0', y1, y2⟩ := mvf hn hnS
  simp only [wcs] at bB
  simp only [List.cons_append, List.nil_append] at jB
  have hlen := cellsOk_len hok
  have hu := oc.slr (W0 := W0)
  have et : j.e.tmod 2 = j.e % 2 := Int.tmod_eq_emod_of_nonneg he.1
  have hcg : ∀ i, 0 ≤ cget w i ∧ cget w i ≤ 281474976710655 := fun i => cellsOk_get hok i
  have hI := getD_I hu
  have eI : (1 + j.e % 2).toNat = inD j := by unfold inD; omega
  have d : ∀ x, decide (j.pc = x) = decide ((2 : Int) = x) := fun x => by rw [e]
  repeat' (first | simp -implicitDefEqProofs only [go_sem] | (simp -implicitDefEqProofs (disch := omega) only [bB, jB, hne, hne', z0, z1, z2, y0, y1, y2, z0', y0', blk_set_self, wr_pre hpl, wr_pre0 hpl, drop_pre hpl, drop_pre0 hpl, lc, cc, ll, cl, lk, ck, lr, cr, lj, cj, lt, ct, wr_succ, wr_zero, wr_none, set_set, Bool.and_self, if_false, List.length_append, List.length_cons, d, et, Int.reduceEq, decide_true, decide_false, if_true, Bool.false_eq_true]) | (rw [if_pos (by omega)]) | (refine ixI (OwnS.slr (W0 := W0) (Kp.own oc mC (by repeat (first | exact Kp.refl _ _ | refine Kp.set ?_ (by assumption) _ | refine Kp.new ?_ (by assumption) _ _)))) ?_ (by omega) (by omega) (by rfl) (Sub.refl _)) | (refine rdI (OwnS.slr (W0 := W0) (Kp.own oc mC (by repeat (first | exact Kp.refl _ _ | refine Kp.set ?_ (by assumption) _ | refine Kp.new ?_ (by assumption) _ _)))) ?_ (by omega) (by rfl) (Sub.refl _)) | (with_reducible refine And.intro (by omega) ?_) | fail)
  rw [show writeD w t j = (w, { j with e := cget w 0, pc := 3 }) by unfold writeD; rw [if_pos e]]
  refine retK_nil ⟨rfl, MvR.fin (w' := w) (j' := { j with e := cget w 0, pc := 3 }) hw hm0.in2 (Upd.refl H hn) oc ol ⟨vk, vr, Sk, Sr, rfl, rfl, f0, f1, f2, f3, f4, (by simp only [inI64]; omega), f6, f7, f8, (hI 0), f10, f11, f12, f13, f14, f15, f16⟩ hw (fun b h1 h2 h3 => ?_) (Nat.le_succ _) ?_ ?_⟩
  · simp only [blk_set, blk_new, if_neg h2, if_neg (show ¬ b = H.nxt by omega)]
  · simp only [blk_set, blk_new, hne, z0, if_false]; exact bB
  · exact blk_set_self _ _ _
theorem mv3_ok (W0 : World) (bw bj oj t : Nat) (vj vt : AV) (pre post : List AV) (w : WorldD) (j : JobD) (S : List Nat) (H : AH) (hp : MvP H S bw bj oj t vj vt pre post w j) (hok : cellsOk w.cells = true) (he : 0 ≤ j.e ∧ j.e ≤ 281474976710655) (e : j.pc = 3) :
    ACalls Tryz.prog W0 87 [mvA bw bj oj t] H (fun r H' => r = .tup [] ∧ MvR H S bw bj vj vt pre post (writeD w t j) H') := by
  refine acallw Tryz.func87 rfl (by kernel_rfl) (by kernel_rfl) fun hc hw => ?_
  have hp0 := hp
  obtain ⟨⟨hn, vc, vl, cj, Sc, Sl, Sj, rfl, bB, jB, oc, ol, oj_⟩, hll, hj, ht, hnw, htt, hpl⟩ := hp
  obtain ⟨vk, vr, Sk, Sr, rfl, rfl, f0, f1, f2, f3, f4, f5, f6, f7, f8, f9, f10, f11, f12, f13, f14, f15, f16⟩ := oj_
  have lc := oc.leaf; have cc := oc.one
  have ll := ol.leaf; have cl := ol.one
  have lk := f15.leaf; have ck := f15.one
  have lr := f16.leaf; have cr := f16.one
  obtain ⟨lj, cj⟩ := hj
  obtain ⟨lt, ct⟩ := ht
  have hm0 : Mv H (bw :: bj :: (Sc ++ (Sl ++ (Sk ++ Sr)))) bw bj vj vt pre post w j := ⟨hn, vc, vl, _, Sc, Sl, Sk ++ Sr, rfl, bB, jB, oc, ol, vk, vr, Sk, Sr, rfl, rfl, f0, f1, f2, f3, f4, f5, f6, f7, f8, f9, f10, f11, f12, f13, f14, f15, f16⟩
  have hnS : ∀ b ∈ bw :: bj :: (Sc ++ (Sl ++ (Sk ++ Sr))), b < H.nxt := fun b hb => hw.lt' (hm0.isin b hb)
  obtain ⟨hnw1, hnj1, hne, hne', hU, nwU, njU, mC, mL, mK, mR, z0, z1, z2, y0, z0', y0', y1, y2⟩ := mvf hn hnS
  simp only [wcs] at bB
  simp only [List.cons_append, List.nil_append] at jB
  have hlen := cellsOk_len hok
  have hu := oc.slr (W0 := W0)
  have et : j.e.tmod 2 = j.e % 2 := Int.tmod_eq_emod_of_nonneg he.1
  have hcg : ∀ i, 0 ≤ cget w i ∧ cget w i ≤ 281474976710655 := fun i => cellsOk_get hok i
  have hI := getD_I hu
  have eI : (1 + j.e % 2).toNat = inD j := by unfold inD; omega
  have d : ∀ x, decide (j.pc = x) = decide ((3 : Int) = x) := fun x => by rw [e]
  repeat' (first | simp -implicitDefEqProofs only [go_sem] | (simp -implicitDefEqProofs (disch := omega) only [bB, jB, hne, hne', z0, z1, z2, y0, y1, y2, z0', y0', blk_set_self, wr_pre hpl, wr_pre0 hpl, drop_pre hpl, drop_pre0 hpl, lc, cc, ll, cl, lk, ck, lr, cr, lj, cj, lt, ct, wr_succ, wr_zero, wr_none, set_set, Bool.and_self, if_false, List.length_append, List.length_cons, d, et, Int.reduceEq, decide_true, decide_false, if_true, Bool.false_eq_true]) | (rw [if_pos (by omega)]) | (refine ACallK.eq (InCell_impl _ _ _) ?_; rw [if_pos (by omega)]) | ((with_reducible refine adraw_plan [(0, []), (1, []), (2, [0]), (3, [])] ?_ ?_ ?_); (· kernel_rfl); (· decide +kernel)))
  refine ACallK.mvr (H0 := H) (add_ok _ bw bj oj t vj vt pre post w j (1 + j.e % 2) (1) _ _ (hp0.sub (by exact by repeat (first | exact Sub.refl _ | assumption | refine Sub.new hc.1 ?_ _ _ | refine Sub.set hc.1 ?_ (by omega) _ | refine Sub.trans ?_ (by assumption)))) hok (by omega) (by omega)) hw (by exact by repeat (first | exact Sub.refl _ | assumption | refine Sub.new hc.1 ?_ _ _ | refine Sub.set hc.1 ?_ (by omega) _ | refine Sub.trans ?_ (by assumption))) hnS ?_
  intro H2 S2 w2 hs2 g2 kq m2 hS2
  have hm2 := hs2
  obtain ⟨hn2, vc2, vl2, cj2, Sc2, Sl2, Sj2, rfl, bB2, jB2, oc2, ol2, oj2⟩ := hs2
  obtain ⟨vk2, vr2, Sk2, Sr2, rfl, rfl, f_20, f_21, f_22, f_23, f_24, f_25, f_26, f_27, f_28, f_29, f_210, f_211, f_212, f_213, f_214, f_215, f_216⟩ := oj2
  have lc2 := oc2.leaf; have cc2 := oc2.one
  have ll2 := ol2.leaf; have cl2 := ol2.one
  have lk2 := f_215.leaf; have ck2 := f_215.one
  have lr2 := f_216.leaf; have cr2 := f_216.one
  simp only [wcs] at bB2
  simp only [List.cons_append, List.nil_append] at jB2
  have a0 := kq H.nxt _ (fun hm => by have := hnS _ hm; omega) (by simp only [go_sem]; rfl)
  rw [eI] at oc2
  repeat' (first | simp -implicitDefEqProofs only [go_sem] | (simp -implicitDefEqProofs (disch := omega) only [bB2, jB2, hne, hne', z0, z1, z2, y0, y1, y2, z0', y0', blk_set_self, wr_pre hpl, wr_pre0 hpl, drop_pre hpl, drop_pre0 hpl, lc2, cc2, ll2, cl2, lk2, ck2, lr2, cr2, lj, cj, lt, ct, wr_succ, wr_zero, wr_none, set_set, Bool.and_self, if_false, List.length_append, List.length_cons, d, et, a0, Int.reduceEq, decide_true, decide_false, if_true, Bool.false_eq_true]) | (with_reducible refine And.intro (by omega) ?_) | fail)
  rw [show writeD w t j = (cadd w (inD j) (1), { j with pc := 4 }) by unfold writeD; rw [if_neg (by omega), if_pos e]]
  refine retK_nil ⟨rfl, MvR.fin (w' := cadd w (inD j) (1)) (j' := { j with pc := 4 }) w2 hm0.in2 g2 oc2 ol2 ⟨vk2, vr2, Sk2, Sr2, rfl, rfl, f_20, f_21, f_22, f_23, f_24, (by simp only [inI64]; omega), f_26, f_27, f_28, f_29, f_210, f_211, f_212, f_213, f_214, f_215, f_216⟩ hw (fun b h1 h2 _ => ?_) (Nat.le_refl _) ?_ ?_⟩
  · simp only [blk_set, if_neg h2]
  · simp only [blk_set, hne, if_false]; exact bB2
  · exact blk_set_self _ _ _
theorem mv9_ok (W0 : World) (bw bj oj t : Nat) (vj vt : AV) (pre post : List AV) (w : WorldD) (j : JobD) (S : List Nat) (H : AH) (hp : MvP H S bw bj oj t vj vt pre post w j) (hok : cellsOk w.cells = true) (he : 0 ≤ j.e ∧ j.e ≤ 281474976710655) (e : j.pc = 9) :
    ACalls Tryz.prog W0 87 [mvA bw bj oj t] H (fun r H' => r = .tup [] ∧ MvR H S bw bj vj vt pre post (writeD w t j) H') := by
  refine acallw Tryz.func87 rfl (by kernel_rfl) (by kernel_rfl) fun hc hw => ?_
  have hp0 := hp
  obtain ⟨⟨hn, vc, vl, cj, Sc, Sl, Sj, rfl, bB, jB, oc, ol, oj_⟩, hll, hj, ht, hnw, htt, hpl⟩ := hp
  obtain ⟨vk, vr, Sk, Sr, rfl, rfl, f0, f1, f2, f3, f4, f5, f6, f7, f8, f9, f10, f11, f12, f13, f14, f15, f16⟩ := oj_
  have lc := oc.leaf; have cc := oc.one
  have ll := ol.leaf; have cl := ol.one
  have lk := f15.leaf; have ck := f15.one
  have lr := f16.leaf; have cr := f16.one
  obtain ⟨lj, cj⟩ := hj
  obtain ⟨lt, ct⟩ := ht
  have hm0 : Mv H (bw :: bj :: (Sc ++ (Sl ++ (Sk ++ Sr)))) bw bj vj vt pre post w j := ⟨hn, vc, vl, _, Sc, Sl, Sk ++ Sr, rfl, bB, jB, oc, ol, vk, vr, Sk, Sr, rfl, rfl, f0, f1, f2, f3, f4, f5, f6, f7, f8, f9, f10, f11, f12, f13, f14, f15, f16⟩
  have hnS : ∀ b ∈ bw :: bj :: (Sc ++ (Sl ++ (Sk ++ Sr))), b < H.nxt := fun b hb => hw.lt' (hm0.isin b hb)
  obtain ⟨hnw1, hnj1, hne, hne', hU, nwU, njU, mC, mL, mK, mR, z0, z1, z2, y0, z0', y0', y1, y2⟩ := mvf hn hnS
  simp only [wcs] at bB
  simp only [List.cons_append, List.nil_append] at jB
  have hlen := cellsOk_len hok
  have hu := oc.slr (W0 := W0)
  have et : j.e.tmod 2 = j.e % 2 := Int.tmod_eq_emod_of_nonneg he.1
  have hcg : ∀ i, 0 ≤ cget w i ∧ cget w i ≤ 281474976710655 := fun i => cellsOk_get hok i
  have hI := getD_I hu
  have eI : (1 + j.e % 2).toNat = inD j := by unfold inD; omega
  have d : ∀ x, decide (j.pc = x) = decide ((9 : Int) = x) := fun x => by rw [e]
  repeat' (first | simp -implicitDefEqProofs only [go_sem] | (simp -implicitDefEqProofs (disch := omega) only [bB, jB, hne, hne', z0, z1, z2, y0, y1, y2, z0', y0', blk_set_self, wr_pre hpl, wr_pre0 hpl, drop_pre hpl, drop_pre0 hpl, lc, cc, ll, cl, lk, ck, lr, cr, lj, cj, lt, ct, wr_succ, wr_zero, wr_none, set_set, Bool.and_self, if_false, List.length_append, List.length_cons, d, et, Int.reduceEq, decide_true, decide_false, if_true, Bool.false_eq_true]) | (rw [if_pos (by omega)]) | (refine ACallK.eq (InCell_impl _ _ _) ?_; rw [if_pos (by omega)]) | ((with_reducible refine adraw_plan [(0, []), (1, []), (2, [0]), (3, [])] ?_ ?_ ?_); (· kernel_rfl); (· decide +kernel)))
  refine ACallK.mvr (H0 := H) (add_ok _ bw bj oj t vj vt pre post w j (1 + j.e % 2) (-1) _ _ (hp0.sub (by exact by repeat (first | exact Sub.refl _ | assumption | refine Sub.new hc.1 ?_ _ _ | refine Sub.set hc.1 ?_ (by omega) _ | refine Sub.trans ?_ (by assumption)))) hok (by omega) (by omega)) hw (by exact by repeat (first | exact Sub.refl _ | assumption | refine Sub.new hc.1 ?_ _ _ | refine Sub.set hc.1 ?_ (by omega) _ | refine Sub.trans ?_ (by assumption))) hnS ?_
  intro H2 S2 w2 hs2 g2 kq m2 hS2
  have hm2 := hs2
  obtain ⟨hn2, vc2, vl2, cj2, Sc2, Sl2, Sj2, rfl, bB2, jB2, oc2, ol2, oj2⟩ := hs2
  obtain ⟨vk2, vr2, Sk2, Sr2, rfl, rfl, f_20, f_21, f_22, f_23, f_24, f_25, f_26, f_27, f_28, f_29, f_210, f_211, f_212, f_213, f_214, f_215, f_216⟩ := oj2
  have lc2 := oc2.leaf; have cc2 := oc2.one
  have ll2 := ol2.leaf; have cl2 := ol2.one
  have lk2 := f_215.leaf; have ck2 := f_215.one
  have lr2 := f_216.leaf; have cr2 := f_216.one
  simp only [wcs] at bB2
  simp only [List.cons_append, List.nil_append] at jB2
  have a0 := kq H.nxt _ (fun hm => by have := hnS _ hm; omega) (by simp only [go_sem]; rfl)
  rw [eI] at oc2
  repeat' (first | simp -implicitDefEqProofs only [go_sem] | (simp -implicitDefEqProofs (disch := omega) only [bB2, jB2, hne, hne', z0, z1, z2, y0, y1, y2, z0', y0', blk_set_self, wr_pre hpl, wr_pre0 hpl, drop_pre hpl, drop_pre0 hpl, lc2, cc2, ll2, cl2, lk2, ck2, lr2, cr2, lj, cj, lt, ct, wr_succ, wr_zero, wr_none, set_set, Bool.and_self, if_false, List.length_append, List.length_cons, d, et, a0, Int.reduceEq, decide_true, decide_false, if_true, Bool.false_eq_true]) | (with_reducible refine And.intro (by omega) ?_) | fail)
  rw [show writeD w t j = (cadd w (inD j) (-1), { j with pc := 11 }) by unfold writeD; rw [if_neg (by omega), if_neg (by omega), if_neg (by omega), if_neg (by omega), if_neg (by omega), if_neg (by omega), if_neg (by omega), if_pos e]]
  refine retK_nil ⟨rfl, MvR.fin (w' := cadd w (inD j) (-1)) (j' := { j with pc := 11 }) w2 hm0.in2 g2 oc2 ol2 ⟨vk2, vr2, Sk2, Sr2, rfl, rfl, f_20, f_21, f_22, f_23, f_24, (by simp only [inI64]; omega), f_26, f_27, f_28, f_29, f_210, f_211, f_212, f_213, f_214, f_215, f_216⟩ hw (fun b h1 h2 _ => ?_) (Nat.le_refl _) ?_ ?_⟩
  · simp only [blk_set, if_neg h2]
  · simp only [blk_set, hne, if_false]; exact bB2
  · exact blk_set_self _ _ _
theorem mv10_ok (W0 : World) (bw bj oj t : Nat) (vj vt : AV) (pre post : List AV) (w : WorldD) (j : JobD) (S : List Nat) (H : AH) (hp : MvP H S bw bj oj t vj vt pre post w j) (hok : cellsOk w.cells = true) (he : 0 ≤ j.e ∧ j.e ≤ 281474976710655) (e : j.pc = 10) :
    ACalls Tryz.prog W0 87 [mvA bw bj oj t] H (fun r H' => r = .tup [] ∧ MvR H S bw bj vj vt pre post (writeD w t j) H') := by
  refine acallw Tryz.func87 rfl (by kernel_rfl) (by kernel_rfl) fun hc hw => ?_
  have hp0 := hp
  obtain ⟨⟨hn, vc, vl, cj, Sc, Sl, Sj, rfl, bB, jB, oc, ol, oj_⟩, hll, hj, ht, hnw, htt, hpl⟩ := hp
  obtain ⟨vk, vr, Sk, Sr, rfl, rfl, f0, f1, f2, f3, f4, f5, f6, f7, f8, f9, f10, f11, f12, f13, f14, f15, f16⟩ := oj_
  have lc := oc.leaf; have cc := oc.one
  have ll := ol.leaf; have cl := ol.one
  have lk := f15.leaf; have ck := f15.one
  have lr := f16.leaf; have cr := f16.one
  obtain ⟨lj, cj⟩ := hj
  obtain ⟨lt, ct⟩ := ht
  have hm0 : Mv H (bw :: bj :: (Sc ++ (Sl ++ (Sk ++ Sr)))) bw bj vj vt pre post w j := ⟨hn, vc, vl, _, Sc, Sl, Sk ++ Sr, rfl, bB, jB, oc, ol, vk, vr, Sk, Sr, rfl, rfl, f0, f1, f2, f3, f4, f5, f6, f7, f8, f9, f10, f11, f12, f13, f14, f15, f16⟩
  have hnS : ∀ b ∈ bw :: bj :: (Sc ++ (Sl ++ (Sk ++ Sr))), b < H.nxt := fun b hb => hw.lt' (hm0.isin b hb)
  obtain ⟨hnw1, hnj1, hne, hne', hU, nwU, njU, mC, mL, mK, mR, z0, z1, z2, y0, z0', y0', y1, y2⟩ := mvf hn hnS
  simp only [wcs] at bB
  simp only [List.cons_append, List.nil_append] at jB
  have hlen := cellsOk_len hok
  have hu := oc.slr (W0 := W0)
  have et : j.e.tmod 2 = j.e % 2 := Int.tmod_eq_emod_of_nonneg he.1
  have hcg : ∀ i, 0 ≤ cget w i ∧ cget w i ≤ 281474976710655 := fun i => cellsOk_get hok i
  have hI := getD_I hu
  have eI : (1 + j.e % 2).toNat = inD j := by unfold inD; omega
  have d : ∀ x, decide (j.pc = x) = decide ((10 : Int) = x) := fun x => by rw [e]
  repeat' (first | simp -implicitDefEqProofs only [go_sem] | (simp -implicitDefEqProofs (disch := omega) only [bB, jB, hne, hne', z0, z1, z2, y0, y1, y2, z0', y0', blk_set_self, wr_pre hpl, wr_pre0 hpl, drop_pre hpl, drop_pre0 hpl, lc, cc, ll, cl, lk, ck, lr, cr, lj, cj, lt, ct, wr_succ, wr_zero, wr_none, set_set, Bool.and_self, if_false, List.length_append, List.length_cons, d, et, Int.reduceEq, decide_true, decide_false, if_true, Bool.false_eq_true]) | (rw [if_pos (by omega)]) | (refine ACallK.eq (InCell_impl _ _ _) ?_; rw [if_pos (by omega)]) | ((with_reducible refine adraw_plan [(0, []), (1, []), (2, [0]), (3, [])] ?_ ?_ ?_); (· kernel_rfl); (· decide +kernel)))
  refine ACallK.mvr (H0 := H) (add_ok _ bw bj oj t vj vt pre post w j (1 + j.e % 2) (-1) _ _ (hp0.sub (by exact by repeat (first | exact Sub.refl _ | assumption | refine Sub.new hc.1 ?_ _ _ | refine Sub.set hc.1 ?_ (by omega) _ | refine Sub.trans ?_ (by assumption)))) hok (by omega) (by omega)) hw (by exact by repeat (first | exact Sub.refl _ | assumption | refine Sub.new hc.1 ?_ _ _ | refine Sub.set hc.1 ?_ (by omega) _ | refine Sub.trans ?_ (by assumption))) hnS ?_
  intro H2 S2 w2 hs2 g2 kq m2 hS2
  have hm2 := hs2
  obtain ⟨hn2, vc2, vl2, cj2, Sc2, Sl2, Sj2, rfl, bB2, jB2, oc2, ol2, oj2⟩ := hs2
  obtain ⟨vk2, vr2, Sk2, Sr2, rfl, rfl, f_20, f_21, f_22, f_23, f_24, f_25, f_26, f_27, f_28, f_29, f_210, f_211, f_212, f_213, f_214, f_215, f_216⟩ := oj2
  have lc2 := oc2.leaf; have cc2 := oc2.one
  have ll2 := ol2.leaf; have cl2 := ol2.one
  have lk2 := f_215.leaf; have ck2 := f_215.one
  have lr2 := f_216.leaf; have cr2 := f_216.one
  simp only [wcs] at bB2
  simp only [List.cons_append, List.nil_append] at jB2
  have a0 := kq H.nxt _ (fun hm => by have := hnS _ hm; omega) (by simp only [go_sem]; rfl)
  rw [eI] at oc2
  repeat' (first | simp -implicitDefEqProofs only [go_sem] | (simp -implicitDefEqProofs (disch := omega) only [bB2, jB2, hne, hne', z0, z1, z2, y0, y1, y2, z0', y0', blk_set_self, wr_pre hpl, wr_pre0 hpl, drop_pre hpl, drop_pre0 hpl, lc2, cc2, ll2, cl2, lk2, ck2, lr2, cr2, lj, cj, lt, ct, wr_succ, wr_zero, wr_none, set_set, Bool.and_self, if_false, List.length_append, List.length_cons, d, et, a0, Int.reduceEq, decide_true, decide_false, if_true, Bool.false_eq_true]) | (rw [if_pos (by omega)]) | (with_reducible refine And.intro (by omega) ?_) | fail)
  rw [show writeD w t j = (cadd w (inD j) (-1), { j with flips := IntKind.i64.wrap (j.flips + 1), pc := 2 }) by unfold writeD; rw [if_neg (by omega), if_neg (by omega), if_neg (by omega), if_neg (by omega), if_neg (by omega), if_neg (by omega), if_neg (by omega), if_neg (by omega)]]
  refine retK_nil ⟨rfl, MvR.fin (w' := cadd w (inD j) (-1)) (j' := { j with flips := IntKind.i64.wrap (j.flips + 1), pc := 2 }) w2 hm0.in2 g2 oc2 ol2 ⟨vk2, vr2, Sk2, Sr2, rfl, rfl, f_20, f_21, f_22, f_23, f_24, (by simp only [inI64]; omega), f_26, f_27, f_28, f_29, f_210, f_211, (wrap_I _), f_213, f_214, f_215, f_216⟩ hw (fun b h1 h2 _ => ?_) (Nat.le_refl _) ?_ ?_⟩
  · simp only [blk_set, if_neg h2]
  · simp only [blk_set, hne, if_false]; exact bB2
  · exact blk_set_self _ _ _
theorem mv4_ok (W0 : World) (bw bj oj t : Nat) (vj vt : AV) (pre post : List AV) (w : WorldD) (j : JobD) (S : List Nat) (H : AH) (hp : MvP H S bw bj oj t vj vt pre post w j) (hok : cellsOk w.cells = true) (he : 0 ≤ j.e ∧ j.e ≤ 281474976710655) (e : j.pc = 4) :
    ACalls Tryz.prog W0 87 [mvA bw bj oj t] H (fun r H' => r = .tup [] ∧ MvR H S bw bj vj vt pre post (writeD w t j) H') := by
  refine acallw Tryz.func87 rfl (by kernel_rfl) (by kernel_rfl) fun hc hw => ?_
  have hp0 := hp
  obtain ⟨⟨hn, vc, vl, cj, Sc, Sl, Sj, rfl, bB, jB, oc, ol, oj_⟩, hll, hj, ht, hnw, htt, hpl⟩ := hp
  obtain ⟨vk, vr, Sk, Sr, rfl, rfl, f0, f1, f2, f3, f4, f5, f6, f7, f8, f9, f10, f11, f12, f13, f14, f15, f16⟩ := oj_
  have lc := oc.leaf; have cc := oc.one
  have ll := ol.leaf; have cl := ol.one
  have lk := f15.leaf; have ck := f15.one
  have lr := f16.leaf; have cr := f16.one
  obtain ⟨lj, cj⟩ := hj
  obtain ⟨lt, ct⟩ := ht
  have hm0 : Mv H (bw :: bj :: (Sc ++ (Sl ++ (Sk ++ Sr)))) bw bj vj vt pre post w j := ⟨hn, vc, vl, _, Sc, Sl, Sk ++ Sr, rfl, bB, jB, oc, ol, vk, vr, Sk, Sr, rfl, rfl, f0, f1, f2, f3, f4, f5, f6, f7, f8, f9, f10, f11, f12, f13, f14, f15, f16⟩
  have hnS : ∀ b ∈ bw :: bj :: (Sc ++ (Sl ++ (Sk ++ Sr))), b < H.nxt := fun b hb => hw.lt' (hm0.isin b hb)
  obtain ⟨hnw1, hnj1, hne, hne', hU, nwU, njU, mC, mL, mK, mR, z0, z1, z2, y0, z0', y0', y1, y2⟩ := mvf hn hnS
  simp only [wcs] at bB
  simp only [List.cons_append, List.nil_append] at jB
  have hlen := cellsOk_len hok
  have hu := oc.slr (W0 := W0)
  have et : j.e.tmod 2 = j.e % 2 := Int.tmod_eq_emod_of_nonneg he.1
  have hcg : ∀ i, 0 ≤ cget w i ∧ cget w i ≤ 281474976710655 := fun i => cellsOk_get hok i
  have hI := getD_I hu
  have eI : (1 + j.e % 2).toNat = inD j := by unfold inD; omega
  have d : ∀ x, decide (j.pc = x) = decide ((4 : Int) = x) := fun x => by rw [e]
  by_cases e4 : cget w 0 = j.e
  · have d4 : decide (w.cells.getD 0 0 = j.e) = true := decide_eq_true e4
    repeat' (first | simp -implicitDefEqProofs only [go_sem] | (simp -implicitDefEqProofs (disch := omega) only [bB, jB, hne, hne', z0, z1, z2, y0, y1, y2, z0', y0', blk_set_self, wr_pre hpl, wr_pre0 hpl, drop_pre hpl, drop_pre0 hpl, lc, cc, ll, cl, lk, ck, lr, cr, lj, cj, lt, ct, wr_succ, wr_zero, wr_none, set_set, Bool.and_self, if_false, List.length_append, List.length_cons, d, et, d4, Int.reduceEq, decide_true, decide_false, if_true, Bool.false_eq_true]) | (rw [if_pos (by omega)]) | (refine ixI (OwnS.slr (W0 := W0) (Kp.own oc mC (by repeat (first | exact Kp.refl _ _ | refine Kp.set ?_ (by assumption) _ | refine Kp.new ?_ (by assumption) _ _)))) ?_ (by omega) (by omega) (by rfl) (Sub.refl _)) | (refine rdI (OwnS.slr (W0 := W0) (Kp.own oc mC (by repeat (first | exact Kp.refl _ _ | refine Kp.set ?_ (by assumption) _ | refine Kp.new ?_ (by assumption) _ _)))) ?_ (by omega) (by rfl) (Sub.refl _)) | ((with_reducible refine adraw_seq ?_ ?_ ?_); (· kernel_rfl); (· decide +kernel)) | (with_reducible refine And.intro (by omega) ?_) | fail)
    rw [show writeD w t j = (w, { j with pc := 5 }) by unfold writeD; rw [if_neg (by omega), if_neg (by omega), if_pos e, if_pos e4]]
    refine retK_nil ⟨rfl, MvR.fin (w' := w) (j' := { j with pc := 5 }) hw hm0.in2 (Upd.refl H hn) oc ol ⟨vk, vr, Sk, Sr, rfl, rfl, f0, f1, f2, f3, f4, (by simp only [inI64]; omega), f6, f7, f8, f9, f10, f11, f12, f13, f14, f15, f16⟩ hw (fun b h1 h2 h3 => ?_) (Nat.le_succ _) ?_ ?_⟩
    · simp only [blk_set, blk_new, if_neg h2, if_neg (show ¬ b = H.nxt by omega)]
    · simp only [blk_set, blk_new, hne, z0, if_false]; exact bB
    · exact blk_set_self _ _ _
  · have d4 : decide (w.cells.getD 0 0 = j.e) = false := decide_eq_false e4
    repeat' (first | simp -implicitDefEqProofs only [go_sem] | (simp -implicitDefEqProofs (disch := omega) only [bB, jB, hne, hne', z0, z1, z2, y0, y1, y2, z0', y0', blk_set_self, wr_pre hpl, wr_pre0 hpl, drop_pre hpl, drop_pre0 hpl, lc, cc, ll, cl, lk, ck, lr, cr, lj, cj, lt, ct, wr_succ, wr_zero, wr_none, set_set, Bool.and_self, if_false, List.length_append, List.length_cons, d, et, d4, Int.reduceEq, decide_true, decide_false, if_true, Bool.false_eq_true]) | (rw [if_pos (by omega)]) | (refine ixI (OwnS.slr (W0 := W0) (Kp.own oc mC (by repeat (first | exact Kp.refl _ _ | refine Kp.set ?_ (by assumption) _ | refine Kp.new ?_ (by assumption) _ _)))) ?_ (by omega) (by omega) (by rfl) (Sub.refl _)) | (refine rdI (OwnS.slr (W0 := W0) (Kp.own oc mC (by repeat (first | exact Kp.refl _ _ | refine Kp.set ?_ (by assumption) _ | refine Kp.new ?_ (by assumption) _ _)))) ?_ (by omega) (by rfl) (Sub.refl _)) | ((with_reducible refine adraw_seq ?_ ?_ ?_); (· kernel_rfl); (· decide +kernel)) | (with_reducible refine And.intro (by omega) ?_) | fail)
    rw [show writeD w t j = (w, { j with pc := 10 }) by unfold writeD; rw [if_neg (by omega), if_neg (by omega), if_pos e, if_neg e4]]
    refine retK_nil ⟨rfl, MvR.fin (w' := w) (j' := { j with pc := 10 }) hw hm0.in2 (Upd.refl H hn) oc ol ⟨vk, vr, Sk, Sr, rfl, rfl, f0, f1, f2, f3, f4, (by simp only [inI64]; omega), f6, f7, f8, f9, f10, f11, f12, f13, f14, f15, f16⟩ hw (fun b h1 h2 h3 => ?_) (Nat.le_succ _) ?_ ?_⟩
    · simp only [blk_set, blk_new, if_neg h2, if_neg (show ¬ b = H.nxt by omega)]
    · simp only [blk_set, blk_new, hne, z0, if_false]; exact bB
    · exact blk_set_self _ _ _
theorem mv5_ok (W0 : World) (bw bj oj t : Nat) (vj vt : AV) (pre post : List AV) (w : WorldD) (j : JobD) (S : List Nat) (H : AH) (hp : MvP H S bw bj oj t vj vt pre post w j) (hok : cellsOk w.cells = true) (he : 0 ≤ j.e ∧ j.e ≤ 281474976710655) (e : j.pc = 5) (hd : DataP w j) :
    ACalls Tryz.prog W0 87 [mvA bw bj oj t] H (fun r H' => r = .tup [] ∧ MvR H S bw bj vj vt pre post (writeD w t j) H') := by
  refine acallw Tryz.func87 rfl (by kernel_rfl) (by kernel_rfl) fun hc hw => ?_
  have hp0 := hp
  obtain ⟨⟨hn, vc, vl, cj, Sc, Sl, Sj, rfl, bB, jB, oc, ol, oj_⟩, hll, hj, ht, hnw, htt, hpl⟩ := hp
  obtain ⟨vk, vr, Sk, Sr, rfl, rfl, f0, f1, f2, f3, f4, f5, f6, f7, f8, f9, f10, f11, f12, f13, f14, f15, f16⟩ := oj_
  have lc := oc.leaf; have cc := oc.one
  have ll := ol.leaf; have cl := ol.one
  have lk := f15.leaf; have ck := f15.one
  have lr := f16.leaf; have cr := f16.one
  obtain ⟨lj, cj⟩ := hj
  obtain ⟨lt, ct⟩ := ht
  have hm0 : Mv H (bw :: bj :: (Sc ++ (Sl ++ (Sk ++ Sr)))) bw bj vj vt pre post w j := ⟨hn, vc, vl, _, Sc, Sl, Sk ++ Sr, rfl, bB, jB, oc, ol, vk, vr, Sk, Sr, rfl, rfl, f0, f1, f2, f3, f4, f5, f6, f7, f8, f9, f10, f11, f12, f13, f14, f15, f16⟩
  have hnS : ∀ b ∈ bw :: bj :: (Sc ++ (Sl ++ (Sk ++ Sr))), b < H.nxt := fun b hb => hw.lt' (hm0.isin b hb)
  obtain ⟨hnw1, hnj1, hne, hne', hU, nwU, njU, mC, mL, mK, mR, z0, z1, z2, y0, z0', y0', y1, y2⟩ := mvf hn hnS
  simp only [wcs] at bB
  simp only [List.cons_append, List.nil_append] at jB
  have hlen := cellsOk_len hok
  have hu := oc.slr (W0 := W0)
  have et : j.e.tmod 2 = j.e % 2 := Int.tmod_eq_emod_of_nonneg he.1
  have hcg : ∀ i, 0 ≤ cget w i ∧ cget w i ≤ 281474976710655 := fun i => cellsOk_get hok i
  have hI := getD_I hu
  have eI : (1 + j.e % 2).toNat = inD j := by unfold inD; omega
  have d : ∀ x, decide (j.pc = x) = decide ((5 : Int) = x) := fun x => by rw [e]
  repeat' (first | simp -implicitDefEqProofs only [go_sem] | (simp -implicitDefEqProofs (disch := omega) only [bB, jB, hne, hne', z0, z1, z2, y0, y1, y2, z0', y0', blk_set_self, wr_pre hpl, wr_pre0 hpl, drop_pre hpl, drop_pre0 hpl, lc, cc, ll, cl, lk, ck, lr, cr, lj, cj, lt, ct, wr_succ, wr_zero, wr_none, set_set, Bool.and_self, if_false, List.length_append, List.length_cons, d, et, Int.reduceEq, decide_true, decide_false, if_true, Bool.false_eq_true]) | (rw [if_pos (by omega)]) | fail)
  refine ACallK.mvr (H0 := H) (data_ok _ bw bj oj t vj vt pre post w j (j.e % 2) _ _ (hp0.sub (by exact by repeat (first | exact Sub.refl _ | assumption | refine Sub.new hc.1 ?_ _ _ | refine Sub.set hc.1 ?_ (by omega) _ | refine Sub.trans ?_ (by assumption)))) hd rfl) hw (by exact by repeat (first | exact Sub.refl _ | assumption | refine Sub.new hc.1 ?_ _ _ | refine Sub.set hc.1 ?_ (by omega) _ | refine Sub.trans ?_ (by assumption))) hnS ?_
  intro H2 S2 w2 m2 g2 _ _ _
  repeat' (first | simp -implicitDefEqProofs only [go_sem])
  rw [show writeD w t j = dataD w t j by unfold writeD; rw [if_neg (by omega), if_neg (by omega), if_neg (by omega), if_pos e]]
  exact retK_nil ⟨rfl, S2, m2, g2⟩
theorem mv0_ok (W0 : World) (bw bj oj t : Nat) (vj vt : AV) (pre post : List AV) (w : WorldD) (j : JobD) (S : List Nat) (H : AH) (hp : MvP H S bw bj oj t vj vt pre post w j) (hok : cellsOk w.cells = true) (he : 0 ≤ j.e ∧ j.e ≤ 281474976710655) (e : j.pc = 0) (hkey : keyOk j.op.key = true) (hk : 0 ≤ j.k ∧ j.k ≤ 3) (hkind : j.op.kind = 1 ∨ j.op.kind = 2) :
    ACalls Tryz.prog W0 87 [mvA bw bj oj t] H (fun r H' => r = .tup [] ∧ MvR H S bw bj vj vt pre post (probeD w t j) H') := by
  refine acallw Tryz.func87 rfl (by kernel_rfl) (by kernel_rfl) fun hc hw => ?_
  have hp0 := hp
  obtain ⟨⟨hn, vc, vl, cj, Sc, Sl, Sj, rfl, bB, jB, oc, ol, oj_⟩, hll, hj, ht, hnw, htt, hpl⟩ := hp
  obtain ⟨vk, vr, Sk, Sr, rfl, rfl, f0, f1, f2, f3, f4, f5, f6, f7, f8, f9, f10, f11, f12, f13, f14, f15, f16⟩ := oj_
  have lc := oc.leaf; have cc := oc.one
  have ll := ol.leaf; have cl := ol.one
  have lk := f15.leaf; have ck := f15.one
  have lr := f16.leaf; have cr := f16.one
  obtain ⟨lj, cj⟩ := hj
  obtain ⟨lt, ct⟩ := ht
  have hm0 : Mv H (bw :: bj :: (Sc ++ (Sl ++ (Sk ++ Sr)))) bw bj vj vt pre post w j := ⟨hn, vc, vl, _, Sc, Sl, Sk ++ Sr, rfl, bB, jB, oc, ol, vk, vr, Sk, Sr, rfl, rfl, f0, f1, f2, f3, f4, f5, f6, f7, f8, f9, f10, f11, f12, f13, f14, f15, f16⟩
  have hnS : ∀ b ∈ bw :: bj :: (Sc ++ (Sl ++ (Sk ++ Sr))), b < H.nxt := fun b hb => hw.lt' (hm0.isin b hb)
  obtain ⟨hnw1, hnj1, hne, hne', hU, nwU, njU, mC, mL, mK, mR, z0, z1, z2, y0, z0', y0', y1, y2⟩ := mvf hn hnS
  simp only [wcs] at bB
  simp only [List.cons_append, List.nil_append] at jB
  have hlen := cellsOk_len hok
  have hu := oc.slr (W0 := W0)
  have et : j.e.tmod 2 = j.e % 2 := Int.tmod_eq_emod_of_nonneg he.1
  have hcg : ∀ i, 0 ≤ cget w i ∧ cget w i ≤ 281474976710655 := fun i => cellsOk_get hok i
  have hI := getD_I hu
  have eI : (1 + j.e % 2).toNat = inD j := by unfold inD; omega
  have d : ∀ x, decide (j.pc = x) = decide ((0 : Int) = x) := fun x => by rw [e]
  repeat' (first | simp -implicitDefEqProofs only [go_sem] | (simp -implicitDefEqProofs (disch := omega) only [bB, jB, hne, hne', z0, z1, z2, y0, y1, y2, z0', y0', blk_set_self, wr_pre hpl, wr_pre0 hpl, drop_pre hpl, drop_pre0 hpl, lc, cc, ll, cl, lk, ck, lr, cr, lj, cj, lt, ct, wr_succ, wr_zero, wr_none, set_set, Bool.and_self, if_false, List.length_append, List.length_cons, d, et, Int.reduceEq, decide_true, decide_false, if_true, Bool.false_eq_true]) | (rw [if_pos (by omega)]) | fail)
  refine ACallK.mvr (H0 := H) (probe_ok _ bw bj oj t vj vt pre post w j _ _ (hp0.sub (by exact by repeat (first | exact Sub.refl _ | assumption | refine Sub.new hc.1 ?_ _ _ | refine Sub.set hc.1 ?_ (by omega) _ | refine Sub.trans ?_ (by assumption)))) hok hkey hk hkind) hw (by exact by repeat (first | exact Sub.refl _ | assumption | refine Sub.new hc.1 ?_ _ _ | refine Sub.set hc.1 ?_ (by omega) _ | refine Sub.trans ?_ (by assumption))) hnS ?_
  intro H2 S2 w2 m2 g2 _ _ _
  repeat' (first | simp -implicitDefEqProofs only [go_sem])
  exact retK_nil ⟨rfl, S2, m2, g2⟩
theorem mv6_ok (W0 : World) (bw bj oj t : Nat) (vj vt : AV) (pre post : List AV) (w : WorldD) (j : JobD) (S : List Nat) (H : AH) (hp : MvP H S bw bj oj t vj vt pre post w j) (hok : cellsOk w.cells = true) (he : 0 ≤ j.e ∧ j.e ≤ 281474976710655) (e : j.pc = 6) (hd : DataP w j) :
    ACalls Tryz.prog W0 87 [mvA bw bj oj t] H (fun r H' => r = .tup [] ∧ MvR H S bw bj vj vt pre post (writeD w t j) H') := by
  refine acallw Tryz.func87 rfl (by kernel_rfl) (by kernel_rfl) fun hc hw => ?_
  have hp0 := hp
  obtain ⟨⟨hn, vc, vl, cj, Sc, Sl, Sj, rfl, bB, jB, oc, ol, oj_⟩, hll, hj, ht, hnw, htt, hpl⟩ := hp
  obtain ⟨vk, vr, Sk, Sr, rfl, rfl, f0, f1, f2, f3, f4, f5, f6, f7, f8, f9, f10, f11, f12, f13, f14, f15, f16⟩ := oj_
  have lc := oc.leaf; have cc := oc.one
  have ll := ol.leaf; have cl := ol.one
  have lk := f15.leaf; have ck := f15.one
  have lr := f16.leaf; have cr := f16.one
  obtain ⟨lj, cj⟩ := hj
  obtain ⟨lt, ct⟩ := ht
  have hm0 : Mv H (bw :: bj :: (Sc ++ (Sl ++ (Sk ++ Sr)))) bw bj vj vt pre post w j := ⟨hn, vc, vl, _, Sc, Sl, Sk ++ Sr, rfl, bB, jB, oc, ol, vk, vr, Sk, Sr, rfl, rfl, f0, f1, f2, f3, f4, f5, f6, f7, f8, f9, f10, f11, f12, f13, f14, f15, f16⟩
  have hnS : ∀ b ∈ bw :: bj :: (Sc ++ (Sl ++ (Sk ++ Sr))), b < H.nxt := fun b hb => hw.lt' (hm0.isin b hb)
  obtain ⟨hnw1, hnj1, hne, hne', hU, nwU, njU, mC, mL, mK, mR, z0, z1, z2, y0, z0', y0', y1, y2⟩ := mvf hn hnS
  simp only [wcs] at bB
  simp only [List.cons_append, List.nil_append] at jB
  have hlen := cellsOk_len hok
  have hu := oc.slr (W0 := W0)
  have et : j.e.tmod 2 = j.e % 2 := Int.tmod_eq_emod_of_nonneg he.1
  have hcg : ∀ i, 0 ≤ cget w i ∧ cget w i ≤ 281474976710655 := fun i => cellsOk_get hok i
  have hI := getD_I hu
  have eI : (1 + j.e % 2).toNat = inD j := by unfold inD; omega
  have d : ∀ x, decide (j.pc = x) = decide ((6 : Int) = x) := fun x => by rw [e]
  obtain ⟨hb1, hb2, hb3, hb4⟩ := hd.base
  have hsl := hd.slot
  have eg : (slotBase (j.e % 2) j.slot + 3).toNat = baseD j + 3 := by omega
  have hIg := hI (baseD j + 3)
  by_cases ec : j.stamp < (unpackGauge (cget w (baseD j + 3))).1
  · have dc : decide ((unpackGauge (w.cells.getD (baseD j + 3) 0)).1 > j.stamp) = true := decide_eq_true ec
    repeat' (first | simp -implicitDefEqProofs only [go_sem] | (simp -implicitDefEqProofs (disch := omega) only [bB, jB, hne, hne', z0, z1, z2, y0, y1, y2, z0', y0', blk_set_self, wr_pre hpl, wr_pre0 hpl, drop_pre hpl, drop_pre0 hpl, lc, cc, ll, cl, lk, ck, lr, cr, lj, cj, lt, ct, wr_succ, wr_zero, wr_none, set_set, Bool.and_self, if_false, List.length_append, List.length_cons, d, et, dc, Int.reduceEq, decide_true, decide_false, if_true, Bool.false_eq_true]) | (rw [if_pos (by omega)]) | (refine ACallK.eq (GaugeCell_impl _ _ _ _) ?_; rw [cellC, if_pos (by omega)]) | (refine ixI (OwnS.slr (W0 := W0) (Kp.own oc mC (by repeat (first | exact Kp.refl _ _ | refine Kp.set ?_ (by assumption) _ | refine Kp.new ?_ (by assumption) _ _)))) ?_ (by omega) (by omega) (by rfl) (Sub.refl _)) | (refine rdI (OwnS.slr (W0 := W0) (Kp.own oc mC (by repeat (first | exact Kp.refl _ _ | refine Kp.set ?_ (by assumption) _ | refine Kp.new ?_ (by assumption) _ _)))) ?_ (by omega) (by rfl) (Sub.refl _)) | (rw [eg]) | (refine ACallK.eq (UnpackGauge_impl _ _ _ hIg) ?_) | (with_reducible refine And.intro (by omega) ?_) | ((with_reducible refine adraw_plan [(0, []), (1, []), (2, []), (3, []), (4, []), (5, []), (6, []), (7, []), (8, []), (9, []), (10, []), (11, []), (12, [0, 1, 2, 3, 4, 5, 6]), (13, []), (14, []), (15, []), (16, []), (17, [1]), (18, []), (19, []), (20, [])] ?_ ?_ ?_); (· kernel_rfl); (· decide +kernel)))
    rw [show writeD w t j = (w, { j with old := cget w (baseD j + 3), pc := 9 }) by unfold writeD; rw [if_neg (by omega), if_neg (by omega), if_neg (by omega), if_neg (by omega), if_pos e, if_pos ec]]
    refine retK_nil ⟨rfl, MvR.fin (w' := w) (j' := { j with old := cget w (baseD j + 3), pc := 9 }) hw hm0.in2 (Upd.refl H hn) oc ol ⟨vk, vr, Sk, Sr, rfl, rfl, f0, f1, f2, f3, f4, (by simp only [inI64]; omega), f6, f7, f8, f9, f10, hIg, f12, f13, f14, f15, f16⟩ hw (fun b h1 h2 h3 => ?_) (Nat.le_succ _) ?_ ?_⟩
    · simp only [blk_set, blk_new, if_neg h2, if_neg (show ¬ b = H.nxt by omega)]
    · simp only [blk_set, blk_new, hne, z0, if_false]; exact bB
    · exact blk_set_self _ _ _
  · have dc : decide ((unpackGauge (w.cells.getD (baseD j + 3) 0)).1 > j.stamp) = false := decide_eq_false ec
    repeat' (first | simp -implicitDefEqProofs only [go_sem] | (simp -implicitDefEqProofs (disch := omega) only [bB, jB, hne, hne', z0, z1, z2, y0, y1, y2, z0', y0', blk_set_self, wr_pre hpl, wr_pre0 hpl, drop_pre hpl, drop_pre0 hpl, lc, cc, ll, cl, lk, ck, lr, cr, lj, cj, lt, ct, wr_succ, wr_zero, wr_none, set_set, Bool.and_self, if_false, List.length_append, List.length_cons, d, et, dc, Int.reduceEq, decide_true, decide_false, if_true, Bool.false_eq_true]) | (rw [if_pos (by omega)]) | (refine ACallK.eq (GaugeCell_impl _ _ _ _) ?_; rw [cellC, if_pos (by omega)]) | (refine ixI (OwnS.slr (W0 := W0) (Kp.own oc mC (by repeat (first | exact Kp.refl _ _ | refine Kp.set ?_ (by assumption) _ | refine Kp.new ?_ (by assumption) _ _)))) ?_ (by omega) (by omega) (by rfl) (Sub.refl _)) | (refine rdI (OwnS.slr (W0 := W0) (Kp.own oc mC (by repeat (first | exact Kp.refl _ _ | refine Kp.set ?_ (by assumption) _ | refine Kp.new ?_ (by assumption) _ _)))) ?_ (by omega) (by rfl) (Sub.refl _)) | (rw [eg]) | (refine ACallK.eq (UnpackGauge_impl _ _ _ hIg) ?_) | (with_reducible refine And.intro (by omega) ?_) | ((with_reducible refine adraw_plan [(0, []), (1, []), (2, []), (3, []), (4, []), (5, []), (6, []), (7, []), (8, []), (9, []), (10, []), (11, []), (12, [0, 1, 2, 3, 4, 5, 6]), (13, []), (14, []), (15, []), (16, []), (17, [1]), (18, []), (19, []), (20, [])] ?_ ?_ ?_); (· kernel_rfl); (· decide +kernel)))
    rw [show writeD w t j = (w, { j with old := cget w (baseD j + 3), pc := 7 }) by unfold writeD; rw [if_neg (by omega), if_neg (by omega), if_neg (by omega), if_neg (by omega), if_pos e, if_neg ec]]
    refine retK_nil ⟨rfl, MvR.fin (w' := w) (j' := { j with old := cget w (baseD j + 3), pc := 7 }) hw hm0.in2 (Upd.refl H hn) oc ol ⟨vk, vr, Sk, Sr, rfl, rfl, f0, f1, f2, f3, f4, (by simp only [inI64]; omega), f6, f7, f8, f9, f10, hIg, f12, f13, f14, f15, f16⟩ hw (fun b h1 h2 h3 => ?_) (Nat.le_succ _) ?_ ?_⟩
    · simp only [blk_set, blk_new, if_neg h2, if_neg (show ¬ b = H.nxt by omega)]
    · simp only [blk_set, blk_new, hne, z0, if_false]; exact bB
    · exact blk_set_self _ _ _
theorem mv7_ok (W0 : World) (bw bj oj t : Nat) (vj vt : AV) (pre post : List AV) (w : WorldD) (j : JobD) (S : List Nat) (H : AH) (hp : MvP H S bw bj oj t vj vt pre post w j) (hok : cellsOk w.cells = true) (he : 0 ≤ j.e ∧ j.e ≤ 281474976710655) (e : j.pc = 7) (hd : DataP w j) :
    ACalls Tryz.prog W0 87 [mvA bw bj oj t] H (fun r H' => r = .tup [] ∧ MvR H S bw bj vj vt pre post (writeD w t j) H') := by
  refine acallw Tryz.func87 rfl (by kernel_rfl) (by kernel_rfl) fun hc hw => ?_
  have hp0 := hp
  obtain ⟨⟨hn, vc, vl, cj, Sc, Sl, Sj, rfl, bB, jB, oc, ol, oj_⟩, hll, hj, ht, hnw, htt, hpl⟩ := hp
  obtain ⟨vk, vr, Sk, Sr, rfl, rfl, f0, f1, f2, f3, f4, f5, f6, f7, f8, f9, f10, f11, f12, f13, f14, f15, f16⟩ := oj_
  have lc := oc.leaf; have cc := oc.one
  have ll := ol.leaf; have cl := ol.one
  have lk := f15.leaf; have ck := f15.one
  have lr := f16.leaf; have cr := f16.one
  obtain ⟨lj, cj⟩ := hj
  obtain ⟨lt, ct⟩ := ht
  have hm0 : Mv H (bw :: bj :: (Sc ++ (Sl ++ (Sk ++ Sr)))) bw bj vj vt pre post w j := ⟨hn, vc, vl, _, Sc, Sl, Sk ++ Sr, rfl, bB, jB, oc, ol, vk, vr, Sk, Sr, rfl, rfl, f0, f1, f2, f3, f4, f5, f6, f7, f8, f9, f10, f11, f12, f13, f14, f15, f16⟩
  have hnS : ∀ b ∈ bw :: bj :: (Sc ++ (Sl ++ (Sk ++ Sr))), b < H.nxt := fun b hb => hw.lt' (hm0.isin b hb)
  obtain ⟨hnw1, hnj1, hne, hne', hU, nwU, njU, mC, mL, mK, mR, z0, z1, z2, y0, z0', y0', y1, y2⟩ := mvf hn hnS
  simp only [wcs] at bB
  simp only [List.cons_append, List.nil_append] at jB
  have hlen := cellsOk_len hok
  have hu := oc.slr (W0 := W0)
  have et : j.e.tmod 2 = j.e % 2 := Int.tmod_eq_emod_of_nonneg he.1
  have hcg : ∀ i, 0 ≤ cget w i ∧ cget w i ≤ 281474976710655 := fun i => cellsOk_get hok i
  have hI := getD_I hu
  have eI : (1 + j.e % 2).toNat = inD j := by unfold inD; omega
  have d : ∀ x, decide (j.pc = x) = decide ((7 : Int) = x) := fun x => by rw [e]
  obtain ⟨hb1, hb2, hb3, hb4⟩ := hd.base
  have hsl := hd.slot
  have eg : (slotBase (j.e % 2) j.slot + 3).toNat = baseD j + 3 := by omega
  repeat' (first | simp -implicitDefEqProofs only [go_sem] | (simp -implicitDefEqProofs (disch := omega) only [bB, jB, hne, hne', z0, z1, z2, y0, y1, y2, z0', y0', blk_set_self, wr_pre hpl, wr_pre0 hpl, drop_pre hpl, drop_pre0 hpl, lc, cc, ll, cl, lk, ck, lr, cr, lj, cj, lt, ct, wr_succ, wr_zero, wr_none, set_set, Bool.and_self, if_false, List.length_append, List.length_cons, d, et, Int.reduceEq, decide_true, decide_false, if_true, Bool.false_eq_true]) | (rw [if_pos (by omega)]) | (refine ACallK.eq (GaugeCell_impl _ _ _ _) ?_; rw [cellC, if_pos (by omega)]) | (refine ACallK.eq (PackGauge_impl _ _ _ _) ?_) | (with_reducible refine And.intro (by omega) ?_) | ((with_reducible refine adraw_plan [(0, []), (1, []), (2, []), (3, []), (4, []), (5, []), (6, []), (7, []), (8, []), (9, []), (10, []), (11, []), (13, []), (14, []), (15, []), (16, []), (17, []), (18, []), (19, []), (20, []), (21, []), (22, []), (23, []), (24, []), (25, []), (12, [0, 1, 2, 3, 4, 5, 6, 13, 14, 15, 16, 17, 18, 19, 20, 21, 22, 23, 24, 25]), (26, [0, 1, 2, 3, 4, 5, 6, 13, 14, 15, 16]), (27, [0, 1]), (28, []), (29, []), (30, []), (31, []), (32, []), (33, [30]), (34, [])] ?_ ?_ ?_); (· kernel_rfl); (· decide +kernel)))
  refine ACallK.of (CasCell_in _ vc w.cells (slotBase (j.e % 2) j.slot + 3) j.old (packGauge j.stamp j.op.val) _ (OwnS.slr (W0 := W0) (Kp.own oc mC (by repeat (first | exact Kp.refl _ _ | refine Kp.set ?_ (by assumption) _ | refine Kp.new ?_ (by assumption) _ _)))) hok (by omega) (packGauge_W _ _)).cl ?_
  rintro _ H1 ⟨⟨v1, rfl, s1, S1, o1, F1⟩, c1⟩
  have b0 := s1.2 bw _ (by simp only [blk_set, blk_new, hne, z0, if_false]; exact bB)
  have b1 := s1.2 bj _ (blk_set_self _ _ _)
  have b2 := s1.2 H.nxt _ (by simp only [blk_set, blk_new, y0', if_true, if_false]; rfl)
  have l1 := o1.leaf; have p1 := o1.one
  have kL := (Kp.own ol mL (by repeat (first | exact Kp.refl _ _ | refine Kp.set ?_ (by assumption) _ | refine Kp.new ?_ (by assumption) _ _))).sub s1
  have k15 := (Kp.own f15 mK (by repeat (first | exact Kp.refl _ _ | refine Kp.set ?_ (by assumption) _ | refine Kp.new ?_ (by assumption) _ _))).sub s1
  have k16 := (Kp.own f16 mR (by repeat (first | exact Kp.refl _ _ | refine Kp.set ?_ (by assumption) _ | refine Kp.new ?_ (by assumption) _ _))).sub s1
  have gU := (Upd.setI (Upd.idle (H1 := H.new [.ptr bw 0, .v (.int .i64 t), .ptr bj oj] 3) (by exact by repeat (first | exact Sub.refl _ | assumption | refine Sub.new hc.1 ?_ _ _ | refine Sub.set hc.1 ?_ (by omega) _ | refine Sub.trans ?_ (by assumption))) hn) hm0.in2.2 _).trans hw (Upd.cells hn (fun b hb => Nat.lt_succ_of_lt (hnS b hb)) s1 F1)
  rw [eg] at o1 ⊢
  by_cases ec : cget w (baseD j + 3) = j.old
  · have dc : decide (w.cells.getD (baseD j + 3) 0 = j.old) = true := decide_eq_true ec
    rw [if_pos (show w.cells.getD (baseD j + 3) 0 = j.old from ec)] at o1
    repeat' (first | simp -implicitDefEqProofs only [go_sem] | (simp -implicitDefEqProofs (disch := omega) only [b0, b1, b2, bB, jB, hne, hne', z0, z1, z2, y0, y1, y2, z0', y0', blk_set_self, wr_pre hpl, wr_pre0 hpl, drop_pre hpl, drop_pre0 hpl, lc, cc, ll, cl, lk, ck, lr, cr, lj, cj, lt, ct, wr_succ, wr_zero, wr_none, set_set, Bool.and_self, if_false, List.length_append, List.length_cons, dc, l1, p1, decide_true, decide_false, if_true, Bool.false_eq_true]) | (with_reducible refine And.intro (by omega) ?_) | fail)
    rw [show writeD w t j = (cset w (baseD j + 3) (packGauge j.stamp j.op.val), { j with pc := 9 }) by unfold writeD; rw [if_neg (by omega), if_neg (by omega), if_neg (by omega), if_neg (by omega), if_neg (by omega), if_pos e, if_pos ec]]
    refine retK_nil ⟨rfl, MvR.fin (w' := cset w (baseD j + 3) (packGauge j.stamp j.op.val)) (j' := { j with pc := 9 }) c1.1 hm0.in2 gU o1 kL ⟨vk, vr, Sk, Sr, rfl, rfl, f0, f1, f2, f3, f4, (by simp only [inI64]; omega), f6, f7, f8, f9, f10, f11, f12, f13, f14, k15, k16⟩ hw (fun b h1 h2 _ => ?_) (Nat.le_refl _) ?_ ?_⟩
    · simp only [blk_set, if_neg h1, if_neg h2]
    · simp only [blk_set, hne, if_true, if_false]; rfl
    · simp only [blk_set, hne', if_true, if_false]; rfl
  · have dc : decide (w.cells.getD (baseD j + 3) 0 = j.old) = false := decide_eq_false ec
    rw [if_neg (show ¬ w.cells.getD (baseD j + 3) 0 = j.old from ec)] at o1
    repeat' (first | simp -implicitDefEqProofs only [go_sem] | (simp -implicitDefEqProofs (disch := omega) only [b0, b1, b2, bB, jB, hne, hne', z0, z1, z2, y0, y1, y2, z0', y0', blk_set_self, wr_pre hpl, wr_pre0 hpl, drop_pre hpl, drop_pre0 hpl, lc, cc, ll, cl, lk, ck, lr, cr, lj, cj, lt, ct, wr_succ, wr_zero, wr_none, set_set, Bool.and_self, if_false, List.length_append, List.length_cons, dc, l1, p1, decide_true, decide_false, if_true, Bool.false_eq_true]))
    rw [show writeD w t j = (w, { j with pc := 6 }) by unfold writeD; rw [if_neg (by omega), if_neg (by omega), if_neg (by omega), if_neg (by omega), if_neg (by omega), if_pos e, if_neg ec]]
    refine retK_nil ⟨rfl, MvR.fin (w' := w) (j' := { j with pc := 6 }) c1.1 hm0.in2 gU o1 kL ⟨vk, vr, Sk, Sr, rfl, rfl, f0, f1, f2, f3, f4, (by simp only [inI64]; omega), f6, f7, f8, f9, f10, f11, f12, f13, f14, k15, k16⟩ hw (fun b h1 h2 _ => ?_) (Nat.le_refl _) ?_ ?_⟩
    · simp only [blk_set, if_neg h1, if_neg h2]
    · simp only [blk_set, hne, if_true, if_false]; rfl
    · simp only [blk_set, hne', if_true, if_false]; exact b1
theorem mv8_ok (W0 : World) (bw bj oj t : Nat) (vj vt : AV) (pre post : List AV) (w : WorldD) (j : JobD) (S : List Nat) (H : AH) (hp : MvP H S bw bj oj t vj vt pre post w j) (hok : cellsOk w.cells = true) (he : 0 ≤ j.e ∧ j.e ≤ 281474976710655) (e : j.pc = 8) (hd : DataP w j) (hk : 0 ≤ j.k ∧ j.k ≤ 2) :
    ACalls Tryz.prog W0 87 [mvA bw bj oj t] H (fun r H' => r = .tup [] ∧ MvR H S bw bj vj vt pre post (writeD w t j) H') := by
  refine acallw Tryz.func87 rfl (by kernel_rfl) (by kernel_rfl) fun hc hw => ?_
  have hp0 := hp
  obtain ⟨⟨hn, vc, vl, cj, Sc, Sl, Sj, rfl, bB, jB, oc, ol, oj_⟩, hll, hj, ht, hnw, htt, hpl⟩ := hp
  obtain ⟨vk, vr, Sk, Sr, rfl, rfl, f0, f1, f2, f3, f4, f5, f6, f7, f8, f9, f10, f11, f12, f13, f14, f15, f16⟩ := oj_
  have lc := oc.leaf; have cc := oc.one
  have ll := ol.leaf; have cl := ol.one
  have lk := f15.leaf; have ck := f15.one
  have lr := f16.leaf; have cr := f16.one
  obtain ⟨lj, cj⟩ := hj
  obtain ⟨lt, ct⟩ := ht
  have hm0 : Mv H (bw :: bj :: (Sc ++ (Sl ++ (Sk ++ Sr)))) bw bj vj vt pre post w j := ⟨hn, vc, vl, _, Sc, Sl, Sk ++ Sr, rfl, bB, jB, oc, ol, vk, vr, Sk, Sr, rfl, rfl, f0, f1, f2, f3, f4, f5, f6, f7, f8, f9, f10, f11, f12, f13, f14, f15, f16⟩
  have hnS : ∀ b ∈ bw :: bj :: (Sc ++ (Sl ++ (Sk ++ Sr))), b < H.nxt := fun b hb => hw.lt' (hm0.isin b hb)
  obtain ⟨hnw1, hnj1, hne, hne', hU, nwU, njU, mC, mL, mK, mR, z0, z1, z2, y0, z0', y0', y1, y2⟩ := mvf hn hnS
  simp only [wcs] at bB
  simp only [List.cons_append, List.nil_append] at jB
  have hlen := cellsOk_len hok
  have hu := oc.slr (W0 := W0)
  have et : j.e.tmod 2 = j.e % 2 := Int.tmod_eq_emod_of_nonneg he.1
  have hcg : ∀ i, 0 ≤ cget w i ∧ cget w i ≤ 281474976710655 := fun i => cellsOk_get hok i
  have hI := getD_I hu
  have eI : (1 + j.e % 2).toNat = inD j := by unfold inD; omega
  have d : ∀ x, decide (j.pc = x) = decide ((8 : Int) = x) := fun x => by rw [e]
  obtain ⟨hb1, hb2, hb3, hb4⟩ := hd.base
  have hsl := hd.slot
  have hv := hd.val
  have eg : (slotBase (j.e % 2) j.slot + (5 + j.k)).toNat = baseD j + 5 + j.k.toNat := by omega
  repeat' (first | simp -implicitDefEqProofs only [go_sem] | (simp -implicitDefEqProofs (disch := omega) only [bB, jB, hne, hne', z0, z1, z2, y0, y1, y2, z0', y0', blk_set_self, wr_pre hpl, wr_pre0 hpl, drop_pre hpl, drop_pre0 hpl, lc, cc, ll, cl, lk, ck, lr, cr, lj, cj, lt, ct, wr_succ, wr_zero, wr_none, set_set, Bool.and_self, if_false, List.length_append, List.length_cons, d, et, Int.reduceEq, decide_true, decide_false, if_true, Bool.false_eq_true]) | (rw [if_pos (by omega)]) | (refine ACallK.eq (RingCell_impl _ _ _ _ _) ?_; rw [ringC, if_pos (by omega)]) | (simp -implicitDefEqProofs (disch := omega) only [wrap_in]) | ((with_reducible refine adraw_plan [(0, []), (1, []), (2, []), (3, []), (4, []), (5, []), (6, []), (7, []), (8, []), (9, []), (10, []), (11, []), (12, []), (13, []), (14, []), (15, []), (17, []), (18, []), (19, []), (20, []), (21, []), (22, []), (16, [0, 1, 2, 3, 4, 5, 6, 17, 18, 19, 20, 21, 22]), (23, [0, 1]), (24, []), (25, []), (26, []), (27, []), (28, []), (29, [26])] ?_ ?_ ?_); (· kernel_rfl); (· decide +kernel)))
  refine ACallK.of (StoreCell_in _ vc w.cells (slotBase (j.e % 2) j.slot + (5 + j.k)) (j.op.val + 1) _ (OwnS.slr (W0 := W0) (Kp.own oc mC (by repeat (first | exact Kp.refl _ _ | refine Kp.set ?_ (by assumption) _ | refine Kp.new ?_ (by assumption) _ _)))) hok (by omega) (by unfold wordP; omega)).cl ?_
  rintro _ H1 ⟨⟨v1, rfl, s1, S1, o1, F1⟩, c1⟩
  have b0 := s1.2 bw _ (by simp only [blk_set, blk_new, hne, z0, if_false]; exact bB)
  have b1 := s1.2 bj _ (by simp only [blk_set, blk_new, y0, if_false]; exact jB)
  have b2 := s1.2 H.nxt _ (by simp only [blk_set, blk_new, y0', if_true, if_false]; rfl)
  have l1 := o1.leaf; have p1 := o1.one
  have kL := (Kp.own ol mL (by repeat (first | exact Kp.refl _ _ | refine Kp.set ?_ (by assumption) _ | refine Kp.new ?_ (by assumption) _ _))).sub s1
  have k15 := (Kp.own f15 mK (by repeat (first | exact Kp.refl _ _ | refine Kp.set ?_ (by assumption) _ | refine Kp.new ?_ (by assumption) _ _))).sub s1
  have k16 := (Kp.own f16 mR (by repeat (first | exact Kp.refl _ _ | refine Kp.set ?_ (by assumption) _ | refine Kp.new ?_ (by assumption) _ _))).sub s1
  have gU := (Upd.idle (H := H) (H1 := H.new [.ptr bw 0, .v (.int .i64 t), .ptr bj oj] 3) (by exact by repeat (first | exact Sub.refl _ | assumption | refine Sub.new hc.1 ?_ _ _ | refine Sub.set hc.1 ?_ (by omega) _ | refine Sub.trans ?_ (by assumption))) hn).trans hw (Upd.cells hn (fun b hb => Nat.lt_succ_of_lt (hnS b hb)) s1 F1)
  rw [eg] at o1
  repeat' (first | simp -implicitDefEqProofs only [go_sem] | (simp -implicitDefEqProofs (disch := omega) only [b0, b1, b2, bB, jB, hne, hne', z0, z1, z2, y0, y1, y2, z0', y0', blk_set_self, wr_pre hpl, wr_pre0 hpl, drop_pre hpl, drop_pre0 hpl, lc, cc, ll, cl, lk, ck, lr, cr, lj, cj, lt, ct, wr_succ, wr_zero, wr_none, set_set, Bool.and_self, if_false, List.length_append, List.length_cons, l1, p1, decide_true, decide_false, if_true, Bool.false_eq_true]) | (with_reducible refine And.intro (by omega) ?_) | fail)
  rw [show writeD w t j = (cset w (baseD j + 5 + j.k.toNat) (j.op.val + 1), { j with pc := 9 }) by unfold writeD; rw [if_neg (by omega), if_neg (by omega), if_neg (by omega), if_neg (by omega), if_neg (by omega), if_neg (by omega), if_pos e]]
  refine retK_nil ⟨rfl, MvR.fin (w' := cset w (baseD j + 5 + j.k.toNat) (j.op.val + 1)) (j' := { j with pc := 9 }) c1.1 hm0.in2 gU o1 kL ⟨vk, vr, Sk, Sr, rfl, rfl, f0, f1, f2, f3, f4, (by simp only [inI64]; omega), f6, f7, f8, f9, f10, f11, f12, f13, f14, k15, k16⟩ hw (fun b h1 h2 _ => ?_) (Nat.le_refl _) ?_ ?_⟩
  · simp only [blk_set, if_neg h1, if_neg h2]
  · simp only [blk_set, hne, if_true, if_false]; rfl
  · simp only [blk_set, hne', if_true, if_false]; rfl
theorem mv1_ok (W0 : World) (bw bj oj t : Nat) (vj vt : AV) (pre post : List AV) (w : WorldD) (j : JobD) (S : List Nat) (H : AH) (hp : MvP H S bw bj oj t vj vt pre post w j) (hok : cellsOk w.cells = true) (he : 0 ≤ j.e ∧ j.e ≤ 281474976710655) (e : j.pc = 1) (hkey : keyOk j.op.key = true) (hk : 0 ≤ j.k ∧ j.k ≤ 3) :
    ACalls Tryz.prog W0 87 [mvA bw bj oj t] H (fun r H' => r = .tup [] ∧ MvR H S bw bj vj vt pre post (claimD w t j) H') := by
  refine acallw Tryz.func87 rfl (by kernel_rfl) (by kernel_rfl) fun hc hw => ?_
  have hp0 := hp
  obtain ⟨⟨hn, vc, vl, cj, Sc, Sl, Sj, rfl, bB, jB, oc, ol, oj_⟩, hll, hj, ht, hnw, htt, hpl⟩ := hp
  obtain ⟨vk, vr, Sk, Sr, rfl, rfl, f0, f1, f2, f3, f4, f5, f6, f7, f8, f9, f10, f11, f12, f13, f14, f15, f16⟩ := oj_
  have lc := oc.leaf; have cc := oc.one
  have ll := ol.leaf; have cl := ol.one
  have lk := f15.leaf; have ck := f15.one
  have lr := f16.leaf; have cr := f16.one
  obtain ⟨lj, cj⟩ := hj
  obtain ⟨lt, ct⟩ := ht
  have hm0 : Mv H (bw :: bj :: (Sc ++ (Sl ++ (Sk ++ Sr)))) bw bj vj vt pre post w j := ⟨hn, vc, vl, _, Sc, Sl, Sk ++ Sr, rfl, bB, jB, oc, ol, vk, vr, Sk, Sr, rfl, rfl, f0, f1, f2, f3, f4, f5, f6, f7, f8, f9, f10, f11, f12, f13, f14, f15, f16⟩
  have hnS : ∀ b ∈ bw :: bj :: (Sc ++ (Sl ++ (Sk ++ Sr))), b < H.nxt := fun b hb => hw.lt' (hm0.isin b hb)
  obtain ⟨hnw1, hnj1, hne, hne', hU, nwU, njU, mC, mL, mK, mR, z0, z1, z2, y0, z0', y0', y1, y2⟩ := mvf hn hnS
  simp only [wcs] at bB
  simp only [List.cons_append, List.nil_append] at jB
  have hlen := cellsOk_len hok
  have hu := oc.slr (W0 := W0)
  have et : j.e.tmod 2 = j.e % 2 := Int.tmod_eq_emod_of_nonneg he.1
  have hcg : ∀ i, 0 ≤ cget w i ∧ cget w i ≤ 281474976710655 := fun i => cellsOk_get hok i
  have hI := getD_I hu
  have eI : (1 + j.e % 2).toNat = inD j := by unfold inD; omega
  have d : ∀ x, decide (j.pc = x) = decide ((1 : Int) = x) := fun x => by rw [e]
  have hq := probe_bd hkey hk.1 hk.2
  have htag : probeTag w j = w.cells.getD (3 + probe j.op.key j.k).toNat 0 := by unfold probeTag cget; rw [keyCell_in hq]
  have hcd : claimD w t j = if w.cells.getD (3 + probe j.op.key j.k).toNat 0 = 0 then endD (cset w (3 + probe j.op.key j.k).toNat (tagged j.op.key j.op.what)) t j 0 else (w, { j with pc := 0 }) := by unfold claimD; rw [htag, keyCell_in hq]
  rw [hcd]
  generalize hqq : probe j.op.key j.k = q at *
  repeat' (first | simp -implicitDefEqProofs only [go_sem] | (simp -implicitDefEqProofs (disch := omega) only [bB, jB, hne, hne', z0, z1, z2, y0, y1, y2, z0', y0', blk_set_self, wr_pre hpl, wr_pre0 hpl, drop_pre hpl, drop_pre0 hpl, lc, cc, ll, cl, lk, ck, lr, cr, lj, cj, lt, ct, wr_succ, wr_zero, wr_none, set_set, Bool.and_self, if_false, List.length_append, List.length_cons, d, et, Int.reduceEq, decide_true, decide_false, if_true, Bool.false_eq_true]) | (rw [if_pos (by omega)]) | (refine ACallK.eq (Probe_impl _ _ _ _ f1) ?_; rw [hqq]) | (refine ACallK.eq (KeyCell_impl _ _ _) ?_; rw [keyCell_in hq]) | (refine ACallK.eq (Tagged_impl _ _ _ _ f1) ?_) | ((with_reducible refine adraw_plan [(0, []), (1, []), (2, []), (3, []), (4, []), (5, []), (6, []), (7, []), (8, []), (9, []), (10, []), (11, []), (12, []), (13, []), (14, []), (15, []), (18, []), (19, []), (20, []), (21, []), (22, []), (23, []), (24, []), (25, []), (26, []), (27, []), (16, [0, 1, 2, 3, 4, 5, 6, 18, 19, 20, 21, 22, 23, 24, 25, 26, 27]), (17, [0, 1, 2, 3, 4, 5, 6, 18, 19, 20, 21, 22, 23, 24, 25, 26, 27]), (28, [0, 1, 2, 3, 4, 5, 6]), (29, [0, 1]), (30, []), (31, []), (32, []), (33, []), (34, []), (35, [32]), (36, [])] ?_ ?_ ?_); (· kernel_rfl); (· decide +kernel)))
  refine ACallK.of (CasCell_in _ vc w.cells (3 + q) 0 (tagged j.op.key j.op.what) _ (OwnS.slr (W0 := W0) (Kp.own oc mC (by repeat (first | exact Kp.refl _ _ | refine Kp.set ?_ (by assumption) _ | refine Kp.new ?_ (by assumption) _ _)))) hok (by omega) (tagged_W _ _)).cl ?_
  rintro _ H1 ⟨⟨v1, rfl, s1, S1, o1, F1⟩, c1⟩
  have b0 := s1.2 bw _ (by simp only [blk_set, blk_new, hne, z0, if_false]; exact bB)
  have b1 := s1.2 bj _ (by simp only [blk_set, blk_new, y0, if_false]; exact jB)
  have b2 := s1.2 H.nxt _ (by simp only [blk_set, blk_new, y0', if_true, if_false]; rfl)
  have l1 := o1.leaf; have p1 := o1.one
  have kL := (Kp.own ol mL (by repeat (first | exact Kp.refl _ _ | refine Kp.set ?_ (by assumption) _ | refine Kp.new ?_ (by assumption) _ _))).sub s1
  have k15 := (Kp.own f15 mK (by repeat (first | exact Kp.refl _ _ | refine Kp.set ?_ (by assumption) _ | refine Kp.new ?_ (by assumption) _ _))).sub s1
  have k16 := (Kp.own f16 mR (by repeat (first | exact Kp.refl _ _ | refine Kp.set ?_ (by assumption) _ | refine Kp.new ?_ (by assumption) _ _))).sub s1
  have gU := (Upd.idle (H := H) (H1 := H.new [.ptr bw 0, .v (.int .i64 t), .ptr bj oj] 3) (by exact by repeat (first | exact Sub.refl _ | assumption | refine Sub.new hc.1 ?_ _ _ | refine Sub.set hc.1 ?_ (by omega) _ | refine Sub.trans ?_ (by assumption))) hn).trans hw (Upd.cells hn (fun b hb => Nat.lt_succ_of_lt (hnS b hb)) s1 F1)
  by_cases ec : w.cells.getD (3 + q).toNat 0 = 0
  · have dc : decide (w.cells.getD (3 + q).toNat 0 = 0) = true := decide_eq_true ec
    rw [if_pos ec] at o1 ⊢
    repeat' (first | simp -implicitDefEqProofs only [go_sem] | (simp -implicitDefEqProofs (disch := omega) only [b0, b1, b2, bB, jB, hne, hne', z0, z1, z2, y0, y1, y2, z0', y0', blk_set_self, wr_pre hpl, wr_pre0 hpl, drop_pre hpl, drop_pre0 hpl, lc, cc, ll, cl, lk, ck, lr, cr, lj, cj, lt, ct, wr_succ, wr_zero, wr_none, set_set, Bool.and_self, if_false, List.length_append, List.length_cons, dc, l1, p1, decide_true, decide_false, if_true, Bool.false_eq_true]))
    obtain ⟨H2, hH2⟩ : ∃ X, X = H1.set bw ⟨[v1, vj, vt, vl, AV.v (Value.int IntKind.i64 w.serial), AV.v (Value.int IntKind.i64 w.now)], 6⟩ := ⟨_, rfl⟩
    rw [← hH2]
    have w2 : H2.wf := by rw [hH2]; exact c1.1.set (c1.1.lt b0) _
    obtain ⟨S2, m2, g2⟩ : MvR H (bw :: bj :: (Sc ++ (Sl ++ (Sk ++ Sr)))) bw bj vj vt pre post (cset w (3 + q).toNat (tagged j.op.key j.op.what), j) H2 := by
      rw [hH2]
      refine MvR.fin (w' := cset w (3 + q).toNat (tagged j.op.key j.op.what)) c1.1 hm0.in2 gU o1 kL ⟨vk, vr, Sk, Sr, rfl, rfl, f0, f1, f2, f3, f4, f5, f6, f7, f8, f9, f10, f11, f12, f13, f14, k15, k16⟩ hw (fun b h1 h2 _ => ?_) (Nat.le_refl _) ?_ ?_
      · simp only [blk_set, if_neg h1]
      · simp only [blk_set, hne, if_true, if_false]; rfl
      · simp only [blk_set, hne', if_true, if_false]; exact b1
    have b3 : H2.blk H.nxt = some ⟨[.ptr bw 0, .v (.int .i64 t), .ptr bj oj], 3⟩ := by rw [hH2]; exact (blk_set_ne _ (by omega) _).trans b2
    clear hH2
    skip
    refine ACallK.mvr (H0 := H2) (finish_ok _ bw bj oj t vj vt pre post (cset w (3 + q).toNat (tagged j.op.key j.op.what)) j 0 _ _ ⟨m2, hll, ⟨lj, cj⟩, ⟨lt, ct⟩, hnw, htt, hpl⟩ (by simp only [inI64]; omega)) w2 (Sub.refl _) (fun b hb => w2.lt' (m2.isin b hb)) ?_
    intro H3 S3 w3 m3 g3 _ _ _
    repeat' (first | simp -implicitDefEqProofs only [go_sem])
    exact retK_nil ⟨rfl, S3, m3, g2.trans hw g3⟩
  · have dc : decide (w.cells.getD (3 + q).toNat 0 = 0) = false := decide_eq_false ec
    rw [if_neg ec] at o1 ⊢
    repeat' (first | simp -implicitDefEqProofs only [go_sem] | (simp -implicitDefEqProofs (disch := omega) only [b0, b1, b2, bB, jB, hne, hne', z0, z1, z2, y0, y1, y2, z0', y0', blk_set_self, wr_pre hpl, wr_pre0 hpl, drop_pre hpl, drop_pre0 hpl, lc, cc, ll, cl, lk, ck, lr, cr, lj, cj, lt, ct, wr_succ, wr_zero, wr_none, set_set, Bool.and_self, if_false, List.length_append, List.length_cons, dc, l1, p1, decide_true, decide_false, if_true, Bool.false_eq_true]) | (with_reducible refine And.intro (by omega) ?_) | fail)
    refine retK_nil ⟨rfl, MvR.fin (w' := w) (j' := { j with pc := 0 }) c1.1 hm0.in2 gU o1 kL ⟨vk, vr, Sk, Sr, rfl, rfl, f0, f1, f2, f3, f4, (by simp only [inI64]; omega), f6, f7, f8, f9, f10, f11, f12, f13, f14, k15, k16⟩ hw (fun b h1 h2 _ => ?_) (Nat.le_refl _) ?_ ?_⟩
    · simp only [blk_set, if_neg h1, if_neg h2]
    · simp only [blk_set, hne, if_true, if_false]; rfl
    · simp only [blk_set, hne', if_true, if_false]; rfl
end Go.Proofs.YtipfnhfcoolhaaaGreat.Aw
