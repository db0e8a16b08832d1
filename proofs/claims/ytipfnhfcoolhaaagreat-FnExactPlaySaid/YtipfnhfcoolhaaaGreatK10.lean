/- Parts of a proof: Gf Fp Fbs. -/
import Derived.Test.YtipfnhfcoolhaaaGreatK07
import Derived.Test.YtipfnhfcoolhaaaGreatK02
import Derived.Test.YtipfnhfcoolhaaaGreatK04
import Derived.Test.YtipfnhfcoolhaaaGreatK03
set_option linter.unusedVariables false
set_option linter.unusedSimpArgs false
section
namespace Go.Proofs.YtipfnhfcoolhaaaGreat.Aw
open Go Go.RowKit
set_option maxRecDepth 100000
set_option maxHeartbeats 2000000
attribute [-go_sem] wr_eq
theorem fl12_ok (W0 : World) (bw bj oj t : Nat) (vj vt : AV) (pre post : List AV) (w : WorldD) (j : JobD) (S : List Nat) (H : AH) (hp : MvP H S bw bj oj t vj vt pre post w j) (hok : cellsOk w.cells = true) (he : 0 ≤ j.e ∧ j.e ≤ 281474976710655) (e : j.pc = 12) :
    ACalls Tryz.prog W0 179 [mvA bw bj oj t, .v (.int .i64 (j.e % 2))] H (fun r H' => r = .tup [] ∧ MvR H S bw bj vj vt pre post (flushD w t j) H') := by
  refine acallw Tryz.func179 rfl (by kernel_rfl) (by kernel_rfl) fun hc hw => ?_
  have hp0 := hp
  obtain ⟨⟨hn, vc, vl, cj, Sc, Sl, Sj, rfl, bB, jB, oc, ol, oj_⟩, hll, hj, ht, hnw, htt, hpl⟩ := hp
  obtain ⟨vk, vr, Sk, Sr, rfl, rfl, f0, f1, f2, f3, f4, f5, f6, f7, f8, f9, f10, f11, f12, f13, f14, f15, f16⟩ := oj_
  have lc := oc.leaf; have cc := oc.one
  have ll := ol.leaf; have cl := ol.one
  have lk := f15.leaf; have ck := f15.one
  have lr := f16.leaf; have cr := f16.one
  obtain ⟨lj, cj⟩ := hj
  obtain ⟨lt, ct⟩ := ht
  have hm0 : Mv H (bw :: bj :: (Sc ++ (Sl ++ (Sk ++ Sr)))) bw bj vj vt pre post w j := ⟨hn, vc, vl, _, Sc, Sl, Sk ++ Sr, rfl, bB, jB, oc, ol, vk, vr, Sk, Sr, rfl, rfl, f0, f1, f2, f3, f4, f5, f6, f7, f8, f9, f10, f11, f12, f13, f14, f15, f16⟩
  have hnS : ∀ b ∈ bw :: bj :: (Sc ++ (Sl ++ (Sk ++ Sr))), b < H.nxt := fun b hb => hw.lt' (hm0.isin b hb)
  obtain ⟨hnw1, hnj1, hne, hne', hU, nwU, njU, mC, mL, mK, mR, z0, z1, z2, y0, z0', y0', y1, y2⟩ := mvf hn hnS
  simp only [wcs] at bB
  simp only [List.cons_append, List.nil_append] at jB
  have hlen := cellsOk_len hok
  have hu := oc.slr (W0 := W0)
  have hcg : ∀ i, 0 ≤ cget w i ∧ cget w i ≤ 281474976710655 := fun i => cellsOk_get hok i
  have hI := getD_I hu
  have eI : (1 + j.e % 2).toNat = inD j := by unfold inD; omega
  have d : ∀ x, decide (j.pc = x) = decide ((12 : Int) = x) := fun x => by rw [e]
  repeat' (first | simp -implicitDefEqProofs only [go_sem] | (simp -implicitDefEqProofs (disch := omega) only [bB, jB, hne, hne', z0, z1, z2, y0, y1, y2, z0', y0', blk_set_self, wr_pre hpl, wr_pre0 hpl, drop_pre hpl, drop_pre0 hpl, lc, cc, ll, cl, lk, ck, lr, cr, lj, cj, lt, ct, wr_succ, wr_zero, wr_none, set_set, Bool.and_self, if_false, List.length_append, List.length_cons, d, Int.reduceEq, decide_true, decide_false, if_true, Bool.false_eq_true]) | (rw [if_pos (by omega)]) | fail)
  refine ACallK.mvr (H0 := H) (add_ok _ bw bj oj t vj vt pre post w j 0 1 _ _ (hp0.sub (by exact by repeat (first | exact Sub.refl _ | assumption | refine Sub.new hc.1 ?_ _ _ | refine Sub.set hc.1 ?_ (by omega) _ | refine Sub.trans ?_ (by assumption)))) hok (by omega) (by omega)) hw (by exact by repeat (first | exact Sub.refl _ | assumption | refine Sub.new hc.1 ?_ _ _ | refine Sub.set hc.1 ?_ (by omega) _ | refine Sub.trans ?_ (by assumption))) hnS ?_
  intro H2 S2 w2 hs2 g2 kq m2 hS2
  have hm2 := hs2
  obtain ⟨hn2, vc2, vl2, cj2, Sc2, Sl2, Sj2, rfl, bB2, jB2, oc2, ol2, oj2⟩ := hs2
  obtain ⟨vk2, vr2, Sk2, Sr2, rfl, rfl, f_20, f_21, f_22, f_23, f_24, f_25, f_26, f_27, f_28, f_29, f_210, f_211, f_212, f_213, f_214, f_215, f_216⟩ := oj2
  have lc2 := oc2.leaf; have cc2 := oc2.one
  have ll2 := ol2.leaf; have cl2 := ol2.one
  have lk2 := f_215.leaf; have ck2 := f_215.one
  have lr2 := f_216.leaf; have cr2 := f_216.one
  simp only [wcs] at bB2
  simp only [List.cons_append, List.nil_append] at jB2
  have a0 := kq H.nxt _ (fun hm => by have := hnS _ hm; omega) (by simp only [go_sem]; rfl)
  rw [show (0 : Int).toNat = 0 from rfl] at oc2 ⊢
  rw [show (0 : Int).toNat = 0 from rfl] at hm2
  repeat' (first | simp -implicitDefEqProofs only [go_sem] | (simp -implicitDefEqProofs (disch := omega) only [bB2, jB2, hne, hne', z0, z1, z2, y0, y1, y2, z0', y0', blk_set_self, wr_pre hpl, wr_pre0 hpl, drop_pre hpl, drop_pre0 hpl, lc2, cc2, ll2, cl2, lk2, ck2, lr2, cr2, lj, cj, lt, ct, wr_succ, wr_zero, wr_none, set_set, Bool.and_self, if_false, List.length_append, List.length_cons, d, a0, Int.reduceEq, decide_true, decide_false, if_true, Bool.false_eq_true]) | (rw [if_pos (by omega)]) | ((with_reducible refine adraw_seq ?_ ?_ ?_); (· kernel_rfl); (· decide +kernel)) | (with_reducible refine And.intro (by omega) ?_) | fail)
  have hI0 := hI 0
  obtain ⟨H3, hH3⟩ : ∃ X, X = H2.set bj ⟨pre ++ (AV.v (Value.bool j.busy) :: AV.v (Value.int IntKind.i64 j.op.kind) :: AV.v (Value.string j.op.key) :: AV.v (Value.int IntKind.i64 j.op.what) :: AV.v (Value.int IntKind.i64 j.op.val) :: AV.v (Value.int IntKind.i64 j.serial) :: AV.v (Value.int IntKind.i64 j.pc) :: AV.v (Value.int IntKind.i64 j.k) :: AV.v (Value.int IntKind.i64 j.slot) :: AV.v (Value.int IntKind.i64 j.what) :: AV.v (Value.int IntKind.i64 (cget w 0)) :: AV.v (Value.int IntKind.i64 j.stamp) :: AV.v (Value.int IntKind.i64 j.old) :: AV.v (Value.int IntKind.i64 j.flips) :: AV.v (Value.int IntKind.i64 j.steps) :: AV.v (Value.int IntKind.i64 j.code) :: vk2 :: vr2 :: post), 18⟩ := ⟨_, rfl⟩
  rw [← hH3]
  have w3 : H3.wf := by rw [hH3]; exact w2.set (w2.lt jB2) _
  obtain ⟨S3, m3, g3⟩ : MvR H2 (bw :: bj :: (Sc2 ++ (Sl2 ++ (Sk2 ++ Sr2)))) bw bj vj vt pre post (cadd w 0 1, { j with e := cget w 0 }) H3 := by
    rw [hH3]
    refine MvR.fin (w' := cadd w 0 1) (j' := { j with e := cget w 0 }) w2 hm2.in2 (Upd.refl H2 hn2) oc2 ol2 ⟨vk2, vr2, Sk2, Sr2, rfl, rfl, f_20, f_21, f_22, f_23, f_24, f_25, f_26, f_27, f_28, hI0, f_210, f_211, f_212, f_213, f_214, f_215, f_216⟩ w2 (fun b h1 h2 _ => ?_) (Nat.le_refl _) ?_ ?_
    · simp only [blk_set, if_neg h2]
    · simp only [blk_set, hne, if_false]; exact bB2
    · simp only [blk_set, if_true]; rfl
  have a3 : H3.blk H.nxt = some ⟨[.ptr bw 0, .v (.int .i64 t), .ptr bj oj], 3⟩ := by rw [hH3]; exact (blk_set_ne _ (by omega) _).trans a0
  clear hH3
  have hm3 := m3
  obtain ⟨hn3, vc3, vl3, cj3, Sc3, Sl3, Sj3, rfl, bB3, jB3, oc3, ol3, oj3⟩ := m3
  obtain ⟨vk3, vr3, Sk3, Sr3, rfl, rfl, f_30, f_31, f_32, f_33, f_34, f_35, f_36, f_37, f_38, f_39, f_310, f_311, f_312, f_313, f_314, f_315, f_316⟩ := oj3
  have lc3 := oc3.leaf; have cc3 := oc3.one
  have ll3 := ol3.leaf; have cl3 := ol3.one
  have lk3 := f_315.leaf; have ck3 := f_315.one
  have lr3 := f_316.leaf; have cr3 := f_316.one
  simp only [wcs] at bB3
  simp only [List.cons_append, List.nil_append] at jB3
  have hnS3 : ∀ b ∈ bw :: bj :: (Sc3 ++ (Sl3 ++ (Sk3 ++ Sr3))), b < H3.nxt := fun b hb => w3.lt' (hm3.isin b hb)
  skip
  refine ACallK.mvr (H0 := H3) (effect_ok _ bw bj oj t vj vt pre post (cadd w 0 1) { j with e := cget w 0 } 0 (cget w 0) _ _ ⟨hm3, hll, ⟨lj, cj⟩, ⟨lt, ct⟩, hnw, htt, hpl⟩ (by simp only [inI64]; omega) hI0) w3 (Sub.refl _) (fun b hb => w3.lt' (hm3.isin b hb)) ?_
  intro H4 S4 w4 hs4 g4 kq m4 hS4
  have hm4 := hs4
  obtain ⟨hn4, vc4, vl4, cj4, Sc4, Sl4, Sj4, rfl, bB4, jB4, oc4, ol4, oj4⟩ := hs4
  obtain ⟨vk4, vr4, Sk4, Sr4, rfl, rfl, f_40, f_41, f_42, f_43, f_44, f_45, f_46, f_47, f_48, f_49, f_410, f_411, f_412, f_413, f_414, f_415, f_416⟩ := oj4
  have lc4 := oc4.leaf; have cc4 := oc4.one
  have ll4 := ol4.leaf; have cl4 := ol4.one
  have lk4 := f_415.leaf; have ck4 := f_415.one
  have lr4 := f_416.leaf; have cr4 := f_416.one
  simp only [wcs] at bB4
  simp only [List.cons_append, List.nil_append] at jB4
  have a4 := kq H.nxt _ (fun hm => by rcases g3.2.2.1 _ hm with h | h; (rcases g2.2.2.1 _ h with h | h; (have := hnS _ h; omega); (simp only [go_sem] at hS2; have := hS2 _ (by assumption); omega)); (have := g2.1; have := w2.lt a0; omega)) a3
  repeat' (first | simp -implicitDefEqProofs only [go_sem] | (simp -implicitDefEqProofs (disch := omega) only [bB4, jB4, hne, hne', z0, z1, z2, y0, y1, y2, z0', y0', blk_set_self, wr_pre hpl, wr_pre0 hpl, drop_pre hpl, drop_pre0 hpl, lc4, cc4, ll4, cl4, lk4, ck4, lr4, cr4, lj, cj, lt, ct, wr_succ, wr_zero, wr_none, set_set, Bool.and_self, if_false, List.length_append, List.length_cons, d, a4, Int.reduceEq, decide_true, decide_false, if_true, Bool.false_eq_true]) | (with_reducible refine And.intro (by omega) ?_) | fail)
  rw [show flushD w t j = ((pointD (cadd w 0 1) t { j with e := cget w 0 } 0 (cget w 0)).1, { j with e := cget w 0, code := 0, pc := 13 }) by unfold flushD; rw [if_pos e]; rfl]
  refine retK_nil ⟨rfl, MvR.fin (w' := (pointD (cadd w 0 1) t { j with e := cget w 0 } 0 (cget w 0)).1) (j' := { j with e := cget w 0, code := 0, pc := 13 }) w4 hm0.in2 ((g2.trans hw g3).trans hw g4) oc4 ol4 ⟨vk4, vr4, Sk4, Sr4, rfl, rfl, f_40, f_41, f_42, f_43, f_44, (by simp only [inI64]; omega), f_46, f_47, f_48, f_49, f_410, f_411, f_412, f_413, f_414, f_415, f_416⟩ hw (fun b h1 h2 _ => ?_) (Nat.le_refl _) ?_ ?_⟩
  · simp only [blk_set, if_neg h2]
  · simp only [blk_set, hne, if_false]; exact bB4
  · exact blk_set_self _ _ _
theorem fl13_ok (W0 : World) (bw bj oj t : Nat) (vj vt : AV) (pre post : List AV) (w : WorldD) (j : JobD) (S : List Nat) (H : AH) (hp : MvP H S bw bj oj t vj vt pre post w j) (hok : cellsOk w.cells = true) (he : 0 ≤ j.e ∧ j.e ≤ 281474976710655) (e : j.pc = 13) :
    ACalls Tryz.prog W0 179 [mvA bw bj oj t, .v (.int .i64 (j.e % 2))] H (fun r H' => r = .tup [] ∧ MvR H S bw bj vj vt pre post (flushD w t j) H') := by
  refine acallw Tryz.func179 rfl (by kernel_rfl) (by kernel_rfl) fun hc hw => ?_
  have hp0 := hp
  obtain ⟨⟨hn, vc, vl, cj, Sc, Sl, Sj, rfl, bB, jB, oc, ol, oj_⟩, hll, hj, ht, hnw, htt, hpl⟩ := hp
  obtain ⟨vk, vr, Sk, Sr, rfl, rfl, f0, f1, f2, f3, f4, f5, f6, f7, f8, f9, f10, f11, f12, f13, f14, f15, f16⟩ := oj_
  have lc := oc.leaf; have cc := oc.one
  have ll := ol.leaf; have cl := ol.one
  have lk := f15.leaf; have ck := f15.one
  have lr := f16.leaf; have cr := f16.one
  obtain ⟨lj, cj⟩ := hj
  obtain ⟨lt, ct⟩ := ht
  have hm0 : Mv H (bw :: bj :: (Sc ++ (Sl ++ (Sk ++ Sr)))) bw bj vj vt pre post w j := ⟨hn, vc, vl, _, Sc, Sl, Sk ++ Sr, rfl, bB, jB, oc, ol, vk, vr, Sk, Sr, rfl, rfl, f0, f1, f2, f3, f4, f5, f6, f7, f8, f9, f10, f11, f12, f13, f14, f15, f16⟩
  have hnS : ∀ b ∈ bw :: bj :: (Sc ++ (Sl ++ (Sk ++ Sr))), b < H.nxt := fun b hb => hw.lt' (hm0.isin b hb)
  obtain ⟨hnw1, hnj1, hne, hne', hU, nwU, njU, mC, mL, mK, mR, z0, z1, z2, y0, z0', y0', y1, y2⟩ := mvf hn hnS
  simp only [wcs] at bB
  simp only [List.cons_append, List.nil_append] at jB
  have hlen := cellsOk_len hok
  have hu := oc.slr (W0 := W0)
  have hcg : ∀ i, 0 ≤ cget w i ∧ cget w i ≤ 281474976710655 := fun i => cellsOk_get hok i
  have hI := getD_I hu
  have eI : (1 + j.e % 2).toNat = inD j := by unfold inD; omega
  have d : ∀ x, decide (j.pc = x) = decide ((13 : Int) = x) := fun x => by rw [e]
  by_cases ec : cget w (inD j) = 0
  · have dc : decide (w.cells.getD (1 + j.e % 2).toNat 0 = 0) = true := decide_eq_true (by rw [eI]; exact ec)
    repeat' (first | simp -implicitDefEqProofs only [go_sem] | (simp -implicitDefEqProofs (disch := omega) only [bB, jB, hne, hne', z0, z1, z2, y0, y1, y2, z0', y0', blk_set_self, wr_pre hpl, wr_pre0 hpl, drop_pre hpl, drop_pre0 hpl, lc, cc, ll, cl, lk, ck, lr, cr, lj, cj, lt, ct, wr_succ, wr_zero, wr_none, set_set, Bool.and_self, if_false, List.length_append, List.length_cons, d, dc, Int.reduceEq, decide_true, decide_false, if_true, Bool.false_eq_true]) | (rw [if_pos (by omega)]) | (refine ACallK.eq (InCell_impl _ _ _) ?_; rw [if_pos (by omega)]) | (refine ixI (OwnS.slr (W0 := W0) (Kp.own oc mC (by repeat (first | exact Kp.refl _ _ | refine Kp.set ?_ (by assumption) _ | refine Kp.new ?_ (by assumption) _ _)))) ?_ (by omega) (by omega) (by rfl) (Sub.refl _)) | (refine rdI (OwnS.slr (W0 := W0) (Kp.own oc mC (by repeat (first | exact Kp.refl _ _ | refine Kp.set ?_ (by assumption) _ | refine Kp.new ?_ (by assumption) _ _)))) ?_ (by omega) (by rfl) (Sub.refl _)) | (with_reducible refine And.intro (by omega) ?_) | ((with_reducible refine adraw_plan [(0, []), (1, []), (2, []), (3, []), (4, []), (5, []), (6, [0, 1, 2, 3, 4]), (7, []), (8, []), (9, [])] ?_ ?_ ?_); (· kernel_rfl); (· decide +kernel)))
    rw [show flushD w t j = (w, { j with k := 0, pc := 14 }) by unfold flushD; rw [if_neg (by omega), if_pos e, if_pos ec]]
    refine retK_nil ⟨rfl, MvR.fin (w' := w) (j' := { j with k := 0, pc := 14 }) hw hm0.in2 (Upd.refl H hn) oc ol ⟨vk, vr, Sk, Sr, rfl, rfl, f0, f1, f2, f3, f4, (by simp only [inI64]; omega), (by simp only [inI64]; omega), f7, f8, f9, f10, f11, f12, f13, f14, f15, f16⟩ hw (fun b h1 h2 h3 => ?_) (Nat.le_succ _) ?_ ?_⟩
    · simp only [blk_set, blk_new, if_neg h2, if_neg (show ¬ b = H.nxt by omega)]
    · simp only [blk_set, blk_new, hne, z0, if_false]; exact bB
    · exact blk_set_self _ _ _
  · have dc : decide (w.cells.getD (1 + j.e % 2).toNat 0 = 0) = false := decide_eq_false (by rw [eI]; exact ec)
    repeat' (first | simp -implicitDefEqProofs only [go_sem] | (simp -implicitDefEqProofs (disch := omega) only [bB, jB, hne, hne', z0, z1, z2, y0, y1, y2, z0', y0', blk_set_self, wr_pre hpl, wr_pre0 hpl, drop_pre hpl, drop_pre0 hpl, lc, cc, ll, cl, lk, ck, lr, cr, lj, cj, lt, ct, wr_succ, wr_zero, wr_none, set_set, Bool.and_self, if_false, List.length_append, List.length_cons, d, dc, Int.reduceEq, decide_true, decide_false, if_true, Bool.false_eq_true]) | (rw [if_pos (by omega)]) | (refine ACallK.eq (InCell_impl _ _ _) ?_; rw [if_pos (by omega)]) | (refine ixI (OwnS.slr (W0 := W0) (Kp.own oc mC (by repeat (first | exact Kp.refl _ _ | refine Kp.set ?_ (by assumption) _ | refine Kp.new ?_ (by assumption) _ _)))) ?_ (by omega) (by omega) (by rfl) (Sub.refl _)) | (refine rdI (OwnS.slr (W0 := W0) (Kp.own oc mC (by repeat (first | exact Kp.refl _ _ | refine Kp.set ?_ (by assumption) _ | refine Kp.new ?_ (by assumption) _ _)))) ?_ (by omega) (by rfl) (Sub.refl _)) | ((with_reducible refine adraw_plan [(0, []), (1, []), (2, []), (3, []), (4, []), (5, []), (6, [0, 1, 2, 3, 4]), (7, []), (8, []), (9, [])] ?_ ?_ ?_); (· kernel_rfl); (· decide +kernel)))
    rw [show flushD w t j = (w, j) by unfold flushD; rw [if_neg (by omega), if_pos e, if_neg ec]]
    exact retK_nil ⟨rfl, _, hm0.sub (by exact by repeat (first | exact Sub.refl _ | assumption | refine Sub.new hc.1 ?_ _ _ | refine Sub.set hc.1 ?_ (by omega) _ | refine Sub.trans ?_ (by assumption))), Upd.idle (by exact by repeat (first | exact Sub.refl _ | assumption | refine Sub.new hc.1 ?_ _ _ | refine Sub.set hc.1 ?_ (by omega) _ | refine Sub.trans ?_ (by assumption))) hn⟩
theorem fl14_ok (W0 : World) (bw bj oj t : Nat) (vj vt : AV) (pre post : List AV) (w : WorldD) (j : JobD) (S : List Nat) (H : AH) (hp : MvP H S bw bj oj t vj vt pre post w j) (hok : cellsOk w.cells = true) (he : 0 ≤ j.e ∧ j.e ≤ 281474976710655) (e : j.pc = 14) (hk : 0 ≤ j.k ∧ j.k ≤ 3) (hkl : j.keys.length ≤ 100) :
    ACalls Tryz.prog W0 179 [mvA bw bj oj t, .v (.int .i64 (j.e % 2))] H (fun r H' => r = .tup [] ∧ MvR H S bw bj vj vt pre post (flushD w t j) H') := by
  refine acallw Tryz.func179 rfl (by kernel_rfl) (by kernel_rfl) fun hc hw => ?_
  have hp0 := hp
  obtain ⟨⟨hn, vc, vl, cj, Sc, Sl, Sj, rfl, bB, jB, oc, ol, oj_⟩, hll, hj, ht, hnw, htt, hpl⟩ := hp
  obtain ⟨vk, vr, Sk, Sr, rfl, rfl, f0, f1, f2, f3, f4, f5, f6, f7, f8, f9, f10, f11, f12, f13, f14, f15, f16⟩ := oj_
  have lc := oc.leaf; have cc := oc.one
  have ll := ol.leaf; have cl := ol.one
  have lk := f15.leaf; have ck := f15.one
  have lr := f16.leaf; have cr := f16.one
  obtain ⟨lj, cj⟩ := hj
  obtain ⟨lt, ct⟩ := ht
  have hm0 : Mv H (bw :: bj :: (Sc ++ (Sl ++ (Sk ++ Sr)))) bw bj vj vt pre post w j := ⟨hn, vc, vl, _, Sc, Sl, Sk ++ Sr, rfl, bB, jB, oc, ol, vk, vr, Sk, Sr, rfl, rfl, f0, f1, f2, f3, f4, f5, f6, f7, f8, f9, f10, f11, f12, f13, f14, f15, f16⟩
  have hnS : ∀ b ∈ bw :: bj :: (Sc ++ (Sl ++ (Sk ++ Sr))), b < H.nxt := fun b hb => hw.lt' (hm0.isin b hb)
  obtain ⟨hnw1, hnj1, hne, hne', hU, nwU, njU, mC, mL, mK, mR, z0, z1, z2, y0, z0', y0', y1, y2⟩ := mvf hn hnS
  simp only [wcs] at bB
  simp only [List.cons_append, List.nil_append] at jB
  have hlen := cellsOk_len hok
  have hu := oc.slr (W0 := W0)
  have hcg : ∀ i, 0 ≤ cget w i ∧ cget w i ≤ 281474976710655 := fun i => cellsOk_get hok i
  have hI := getD_I hu
  have eI : (1 + j.e % 2).toNat = inD j := by unfold inD; omega
  have d : ∀ x, decide (j.pc = x) = decide ((14 : Int) = x) := fun x => by rw [e]
  have ei : (3 + j.k).toNat = 3 + j.k.toNat := by omega
  have hIk := hI (3 + j.k).toNat
  repeat' (first | simp -implicitDefEqProofs only [go_sem] | (simp -implicitDefEqProofs (disch := omega) only [bB, jB, hne, hne', z0, z1, z2, y0, y1, y2, z0', y0', blk_set_self, wr_pre hpl, wr_pre0 hpl, drop_pre hpl, drop_pre0 hpl, lc, cc, ll, cl, lk, ck, lr, cr, lj, cj, lt, ct, wr_succ, wr_zero, wr_none, set_set, Bool.and_self, if_false, List.length_append, List.length_cons, d, Int.reduceEq, decide_true, decide_false, if_true, Bool.false_eq_true]) | (rw [if_pos (by omega)]) | (refine ACallK.eq (KeyCell_impl _ _ _) ?_; rw [keyCell_in hk]) | (refine ixI (OwnS.slr (W0 := W0) (Kp.own oc mC (by repeat (first | exact Kp.refl _ _ | refine Kp.set ?_ (by assumption) _ | refine Kp.new ?_ (by assumption) _ _)))) ?_ (by omega) (by omega) (by rfl) (Sub.refl _)) | (refine rdI (OwnS.slr (W0 := W0) (Kp.own oc mC (by repeat (first | exact Kp.refl _ _ | refine Kp.set ?_ (by assumption) _ | refine Kp.new ?_ (by assumption) _ _)))) ?_ (by omega) (by rfl) (Sub.refl _)) | ((with_reducible refine adraw_plan [(0, []), (1, []), (2, []), (3, []), (4, []), (5, []), (6, []), (7, []), (8, []), (9, []), (10, []), (11, []), (12, []), (13, []), (14, [0, 1, 2, 3, 4, 5, 6, 7, 8, 9]), (15, []), (16, []), (17, [0, 1, 2, 3, 4]), (18, [0]), (19, []), (20, []), (21, [])] ?_ ?_ ?_); (· kernel_rfl); (· decide +kernel)))
  have hSk : ∀ b ∈ Sk, b < H.nxt := fun b hb => hU b (mK b hb)
  have hkn : Sk.Nodup := (List.nodup_append.1 (List.nodup_append.1 (List.nodup_append.1 (List.nodup_cons.1 (List.nodup_cons.1 hn).2).2).2.1).2.1).1
  refine app_one (x := w.cells.getD (3 + j.k).toNat 0) (S := Sk) (S2 := []) (f15.sub (by exact by repeat (first | exact Sub.refl _ | assumption | refine Sub.new hc.1 ?_ _ _ | refine Sub.set hc.1 ?_ (by omega) _ | refine Sub.trans ?_ (by assumption)))) ⟨rfl, rfl, hIk⟩ (by simpa using hkn) ((hw.new _ _).new _ _) (by simp only [go_sem]) (fun hm => by have := hSk _ hm; omega) ?_
  intro H2 T u2 w2 o2 g2 m2
  rw [List.append_nil] at g2
  have b0 := g2.2.1 bw _ (fun h => nwU (mK _ h)) (by simp only [blk_new, z0, z1, nxt_new, if_false]; exact bB)
  have b1 := g2.2.1 bj _ (fun h => njU (mK _ h)) (by simp only [blk_new, y0, y1, nxt_new, if_false]; exact jB)
  have b2 := g2.2.1 H.nxt _ (fun h => by have := hSk _ h; omega) (by simp only [go_sem]; rfl)
  have l2 := o2.leaf; have c2 := o2.one
  have g2' := g2.start (H := H) (by exact by repeat (first | exact Sub.refl _ | assumption | refine Sub.new hc.1 ?_ _ _ | refine Sub.set hc.1 ?_ (by omega) _ | refine Sub.trans ?_ (by assumption)))
  have gU := Upd.partC hn hnS g2'.1 (fun b B hb hB => g2'.2.1 b B (fun h => hb (List.mem_cons_of_mem _ (List.mem_cons_of_mem _ (mK b h)))) hB) g2.2.2.2 g2'.2.2.1
  have kd : ∀ b, b ∈ Sc ∨ b ∈ Sl ∨ b ∈ Sr → b ∉ Sk := by
    have := hn; simp only [List.nodup_cons, List.nodup_append, List.mem_append] at this; grind
  have kC := g2'.own oc (fun b hb => kd b (.inl hb))
  have kL := g2'.own ol (fun b hb => kd b (.inr (.inl hb)))
  have kR := g2'.own f16 (fun b hb => kd b (.inr (.inr hb)))
  rw [ei] at o2
  by_cases ek : j.k = 3
  · have dk : decide (j.k + 1 = 4) = true := decide_eq_true (by omega)
    repeat' (first | simp -implicitDefEqProofs only [go_sem] | (simp -implicitDefEqProofs (disch := omega) only [b0, b1, b2, bB, jB, hne, hne', z0, z1, z2, y0, y1, y2, z0', y0', blk_set_self, wr_pre hpl, wr_pre0 hpl, drop_pre hpl, drop_pre0 hpl, lc, cc, ll, cl, lk, ck, lr, cr, lj, cj, lt, ct, wr_succ, wr_zero, wr_none, set_set, Bool.and_self, if_false, List.length_append, List.length_cons, dk, l2, c2, wrap_in, decide_true, decide_false, if_true, Bool.false_eq_true]) | (rw [if_pos (by omega)]) | (with_reducible refine And.intro (by omega) ?_) | fail)
    rw [show flushD w t j = (w, { j with keys := j.keys ++ [cget w (3 + j.k.toNat)], k := 0, pc := 15 }) by unfold flushD; rw [if_neg (by omega), if_neg (by omega), if_pos e, if_pos ek]]
    refine retK_nil ⟨rfl, MvR.fin (w' := w) (j' := { j with keys := j.keys ++ [cget w (3 + j.k.toNat)], k := 0, pc := 15 }) w2 hm0.in2 gU kC kL ⟨u2, vr, T, Sr, rfl, rfl, f0, f1, f2, f3, f4, (by simp only [inI64]; omega), (by simp only [inI64]; omega), f7, f8, f9, f10, f11, f12, f13, f14, o2, kR⟩ hw (fun b h1 h2 _ => ?_) (Nat.le_refl _) ?_ ?_⟩
    · simp only [blk_set, if_neg h2]
    · simp only [blk_set, hne, if_false]; exact b0
    · exact blk_set_self _ _ _
  · have dk : decide (j.k + 1 = 4) = false := decide_eq_false (by omega)
    repeat' (first | simp -implicitDefEqProofs only [go_sem] | (simp -implicitDefEqProofs (disch := omega) only [b0, b1, b2, bB, jB, hne, hne', z0, z1, z2, y0, y1, y2, z0', y0', blk_set_self, wr_pre hpl, wr_pre0 hpl, drop_pre hpl, drop_pre0 hpl, lc, cc, ll, cl, lk, ck, lr, cr, lj, cj, lt, ct, wr_succ, wr_zero, wr_none, set_set, Bool.and_self, if_false, List.length_append, List.length_cons, dk, l2, c2, wrap_in, decide_true, decide_false, if_true, Bool.false_eq_true]) | (rw [if_pos (by omega)]) | (with_reducible refine And.intro (by omega) ?_) | fail)
    rw [show flushD w t j = (w, { j with keys := j.keys ++ [cget w (3 + j.k.toNat)], k := j.k + 1 }) by unfold flushD; rw [if_neg (by omega), if_neg (by omega), if_pos e, if_neg ek]]
    refine retK_nil ⟨rfl, MvR.fin (w' := w) (j' := { j with keys := j.keys ++ [cget w (3 + j.k.toNat)], k := j.k + 1 }) w2 hm0.in2 gU kC kL ⟨u2, vr, T, Sr, rfl, rfl, f0, f1, f2, f3, f4, f5, (by simp only [inI64]; omega), f7, f8, f9, f10, f11, f12, f13, f14, o2, kR⟩ hw (fun b h1 h2 _ => ?_) (Nat.le_refl _) ?_ ?_⟩
    · simp only [blk_set, if_neg h2]
    · simp only [blk_set, hne, if_false]; exact b0
    · exact blk_set_self _ _ _
theorem fl15_ok (W0 : World) (bw bj oj t : Nat) (vj vt : AV) (pre post : List AV) (w : WorldD) (j : JobD) (S : List Nat) (H : AH) (hp : MvP H S bw bj oj t vj vt pre post w j) (hok : cellsOk w.cells = true) (he : 0 ≤ j.e ∧ j.e ≤ 281474976710655) (e : j.pc = 15) (hk : 0 ≤ j.k ∧ j.k ≤ 31) (hrl : j.raw.length ≤ 100) :
    ACalls Tryz.prog W0 179 [mvA bw bj oj t, .v (.int .i64 (j.e % 2))] H (fun r H' => r = .tup [] ∧ MvR H S bw bj vj vt pre post (flushD w t j) H') := by
  refine acallw Tryz.func179 rfl (by kernel_rfl) (by kernel_rfl) fun hc hw => ?_
  have hp0 := hp
  obtain ⟨⟨hn, vc, vl, cj, Sc, Sl, Sj, rfl, bB, jB, oc, ol, oj_⟩, hll, hj, ht, hnw, htt, hpl⟩ := hp
  obtain ⟨vk, vr, Sk, Sr, rfl, rfl, f0, f1, f2, f3, f4, f5, f6, f7, f8, f9, f10, f11, f12, f13, f14, f15, f16⟩ := oj_
  have lc := oc.leaf; have cc := oc.one
  have ll := ol.leaf; have cl := ol.one
  have lk := f15.leaf; have ck := f15.one
  have lr := f16.leaf; have cr := f16.one
  obtain ⟨lj, cj⟩ := hj
  obtain ⟨lt, ct⟩ := ht
  have hm0 : Mv H (bw :: bj :: (Sc ++ (Sl ++ (Sk ++ Sr)))) bw bj vj vt pre post w j := ⟨hn, vc, vl, _, Sc, Sl, Sk ++ Sr, rfl, bB, jB, oc, ol, vk, vr, Sk, Sr, rfl, rfl, f0, f1, f2, f3, f4, f5, f6, f7, f8, f9, f10, f11, f12, f13, f14, f15, f16⟩
  have hnS : ∀ b ∈ bw :: bj :: (Sc ++ (Sl ++ (Sk ++ Sr))), b < H.nxt := fun b hb => hw.lt' (hm0.isin b hb)
  obtain ⟨hnw1, hnj1, hne, hne', hU, nwU, njU, mC, mL, mK, mR, z0, z1, z2, y0, z0', y0', y1, y2⟩ := mvf hn hnS
  simp only [wcs] at bB
  simp only [List.cons_append, List.nil_append] at jB
  have hlen := cellsOk_len hok
  have hu := oc.slr (W0 := W0)
  have hcg : ∀ i, 0 ≤ cget w i ∧ cget w i ≤ 281474976710655 := fun i => cellsOk_get hok i
  have hI := getD_I hu
  have eI : (1 + j.e % 2).toNat = inD j := by unfold inD; omega
  have d : ∀ x, decide (j.pc = x) = decide ((15 : Int) = x) := fun x => by rw [e]
  have hsb : slotBase (j.e % 2) 0 = 7 + j.e % 2 * 32 := by unfold slotBase; rw [if_pos (by omega)]; omega
  have ei : (7 + j.e % 2 * 32 + j.k).toNat = drainC j := by unfold drainC; omega
  repeat' (first | simp -implicitDefEqProofs only [go_sem] | (simp -implicitDefEqProofs (disch := omega) only [bB, jB, hne, hne', z0, z1, z2, y0, y1, y2, z0', y0', blk_set_self, wr_pre hpl, wr_pre0 hpl, drop_pre hpl, drop_pre0 hpl, lc, cc, ll, cl, lk, ck, lr, cr, lj, cj, lt, ct, wr_succ, wr_zero, wr_none, set_set, Bool.and_self, if_false, List.length_append, List.length_cons, d, Int.reduceEq, decide_true, decide_false, if_true, Bool.false_eq_true]) | (rw [if_pos (by omega)]) | (refine ACallK.eq (SlotBase_impl _ _ _ _) ?_; rw [hsb]) | (simp -implicitDefEqProofs (disch := omega) only [wrap_in]) | ((with_reducible refine adraw_plan [(0, []), (1, []), (2, []), (3, []), (4, []), (5, []), (6, []), (7, []), (9, []), (10, []), (11, []), (12, []), (8, [0, 1, 2, 3, 4, 5, 6, 9, 10, 11, 12]), (13, []), (14, [0, 1]), (15, []), (16, []), (17, []), (18, []), (19, []), (20, [17]), (21, [])] ?_ ?_ ?_); (· kernel_rfl); (· decide +kernel)))
  refine ACallK.of (SwapCell_in _ vc w.cells (7 + j.e % 2 * 32 + j.k) 0 _ (OwnS.slr (W0 := W0) (Kp.own oc mC (by repeat (first | exact Kp.refl _ _ | refine Kp.set ?_ (by assumption) _ | refine Kp.new ?_ (by assumption) _ _)))) hok (by omega) (by unfold wordP; omega)).cl ?_
  rintro _ H1 ⟨⟨v1, rfl, s1, S1, o1, F1⟩, c1⟩
  rw [ei] at o1 ⊢
  have b0 := s1.2 bw _ (by simp only [blk_set, blk_new, hne, z0, if_false]; exact bB)
  have b1 := s1.2 bj _ (by simp only [blk_set, blk_new, y0, if_false]; exact jB)
  have b2 := s1.2 H.nxt _ (by simp only [blk_set, blk_new, y0', if_true, if_false]; rfl)
  have l1 := o1.leaf; have p1 := o1.one
  have kL := (Kp.own ol mL (by repeat (first | exact Kp.refl _ _ | refine Kp.set ?_ (by assumption) _ | refine Kp.new ?_ (by assumption) _ _))).sub s1
  have k15 := (Kp.own f15 mK (by repeat (first | exact Kp.refl _ _ | refine Kp.set ?_ (by assumption) _ | refine Kp.new ?_ (by assumption) _ _))).sub s1
  have k16 := (Kp.own f16 mR (by repeat (first | exact Kp.refl _ _ | refine Kp.set ?_ (by assumption) _ | refine Kp.new ?_ (by assumption) _ _))).sub s1
  have gU := (Upd.idle (H := H) (H1 := H.new [.ptr bw 0, .v (.int .i64 t), .ptr bj oj] 3) (by exact by repeat (first | exact Sub.refl _ | assumption | refine Sub.new hc.1 ?_ _ _ | refine Sub.set hc.1 ?_ (by omega) _ | refine Sub.trans ?_ (by assumption))) hn).trans hw (Upd.cells hn (fun b hb => Nat.lt_succ_of_lt (hnS b hb)) s1 F1)
  repeat' (first | simp -implicitDefEqProofs only [go_sem] | (simp -implicitDefEqProofs (disch := omega) only [b0, b1, b2, bB, jB, hne, hne', z0, z1, z2, y0, y1, y2, z0', y0', blk_set_self, wr_pre hpl, wr_pre0 hpl, drop_pre hpl, drop_pre0 hpl, lc, cc, ll, cl, lk, ck, lr, cr, lj, cj, lt, ct, wr_succ, wr_zero, wr_none, set_set, Bool.and_self, if_false, List.length_append, List.length_cons, l1, p1, decide_true, decide_false, if_true, Bool.false_eq_true]) | (rw [if_pos (by omega)]) | fail)
  obtain ⟨H2, hH2⟩ : ∃ X, X = H1.set bw ⟨[v1, vj, vt, vl, AV.v (Value.int IntKind.i64 w.serial), AV.v (Value.int IntKind.i64 w.now)], 6⟩ := ⟨_, rfl⟩
  rw [← hH2]
  have w2 : H2.wf := by rw [hH2]; exact c1.1.set (c1.1.lt b0) _
  have hIx := hI (drainC j)
  have g2 : Upd _ H H2 _ := hH2 ▸ gU.setI hm0.in2.1 ⟨[v1, vj, vt, vl, AV.v (Value.int IntKind.i64 w.serial), AV.v (Value.int IntKind.i64 w.now)], 6⟩
  have hn2 := g2.2.2.2
  have nw2 : ∀ b ∈ S1 ++ (Sl ++ (Sk ++ Sr)), b ≠ bw := fun b hb h => (List.nodup_cons.1 hn2).1 (h ▸ List.mem_cons_of_mem _ hb)
  have oc2 : OwnS H2 S1 v1 (cset w (drainC j) 0).cells := by rw [hH2]; exact o1.setne (fun b hb => nw2 b (List.mem_append_left _ hb))
  have ol2 : OwnS H2 Sl vl w.log := by rw [hH2]; exact kL.setne (fun b hb => nw2 b (List.mem_append_right _ (List.mem_append_left _ hb)))
  have ok2 : OwnS H2 Sk vk j.keys := by rw [hH2]; exact k15.setne (fun b hb => nw2 b (List.mem_append_right _ (List.mem_append_right _ (List.mem_append_left _ hb))))
  have or2 : OwnS H2 Sr vr j.raw := by rw [hH2]; exact k16.setne (fun b hb => nw2 b (List.mem_append_right _ (List.mem_append_right _ (List.mem_append_right _ hb))))
  have bB2 : H2.blk bw = some ⟨[v1, vj, vt, vl, AV.v (Value.int IntKind.i64 w.serial), AV.v (Value.int IntKind.i64 w.now)], 6⟩ := by rw [hH2]; exact blk_set_self _ _ _
  have jB2 := (blk_set_ne H1 hne' ⟨[v1, vj, vt, vl, AV.v (Value.int IntKind.i64 w.serial), AV.v (Value.int IntKind.i64 w.now)], 6⟩).trans b1
  rw [← hH2] at jB2
  have b3 : H2.blk H.nxt = some ⟨[.ptr bw 0, .v (.int .i64 t), .ptr bj oj], 3⟩ := by rw [hH2]; exact (blk_set_ne _ (by omega) _).trans b2
  have e12 : H1.nxt = H2.nxt := by rw [hH2]; rfl
  rw [e12]
  clear hH2
  have hnS2 : ∀ b ∈ bw :: bj :: (S1 ++ (Sl ++ (Sk ++ Sr))), b < H2.nxt := fun b hb => by
    simp only [List.mem_cons, List.mem_append] at hb
    rcases hb with rfl | rfl | h | h | h | h
    · exact w2.lt bB2
    · exact w2.lt jB2
    · exact w2.lt' (oc2.isin b h)
    · exact w2.lt' (ol2.isin b h)
    · exact w2.lt' (ok2.isin b h)
    · exact w2.lt' (or2.isin b h)
  have x0 : ¬ bw = H2.nxt := by have := hnS2 bw (List.mem_cons_self ..); omega
  have x1 : ¬ bj = H2.nxt := by have := hnS2 bj (List.mem_cons_of_mem _ (List.mem_cons_self ..)); omega
  have x2 : ¬ H.nxt = H2.nxt := by have := w2.lt b3; omega
  skip
  have mR3 : ∀ b ∈ Sr, b ∈ bw :: bj :: (S1 ++ (Sl ++ (Sk ++ Sr))) := fun b hb => by simp only [List.mem_cons, List.mem_append]; exact .inr (.inr (.inr (.inr (.inr hb))))
  have hSr : ∀ b ∈ Sr, b < H2.nxt := fun b hb => hnS2 b (mR3 b hb)
  have hrn : Sr.Nodup := (List.nodup_append.1 (List.nodup_append.1 (List.nodup_append.1 (List.nodup_cons.1 (List.nodup_cons.1 hn2).2).2).2.1).2.1).2.1
  refine app_one (xs := j.raw) (x := w.cells.getD (drainC j) 0) (S := Sr) (S2 := []) (or2.sub ((Sub.refl _).new w2 _ _)) ⟨rfl, rfl, hIx⟩ (by simpa using hrn) (w2.new _ _) (by simp only [go_sem]) (fun hm => by have := hSr _ hm; omega) ?_
  intro H4 T u4 w4 o4 g4 m4
  rw [List.append_nil] at g4
  have g4' := g4.start (H := H2) ((Sub.refl _).new w2 _ _)
  have nd2 : bw ∉ Sr ∧ bj ∉ Sr ∧ ∀ b, b ∈ S1 ∨ b ∈ Sl ∨ b ∈ Sk → b ∉ Sr := by
    have := hn2; simp only [List.nodup_cons, List.nodup_append, List.mem_cons, List.mem_append] at this; grind
  have d0 := g4'.2.1 bw _ nd2.1 bB2
  have d1 := g4'.2.1 bj _ nd2.2.1 jB2
  have d2 := g4'.2.1 H.nxt _ (fun h => by have := hU _ (mR _ h); omega) b3
  have l4 := o4.leaf; have c4 := o4.one
  have gV := Upd.partD hn2 hnS2 g4'.1 (fun b B hb hB => g4'.2.1 b B (fun h => hb (mR3 b h)) hB) g4.2.2.2 g4'.2.2.1
  have kC := g4'.own oc2 (fun b hb => nd2.2.2 b (.inl hb))
  have kL2 := g4'.own ol2 (fun b hb => nd2.2.2 b (.inr (.inl hb)))
  have kK := g4'.own ok2 (fun b hb => nd2.2.2 b (.inr (.inr hb)))
  have gZ := g2.trans hw gV
  by_cases ek : j.k = 31
  · have dk : decide (j.k + 1 = 32) = true := decide_eq_true (by omega)
    repeat' (first | simp -implicitDefEqProofs only [go_sem] | (simp -implicitDefEqProofs (disch := omega) only [d0, d1, d2, bB2, jB2, bB, jB, hne, hne', z0, z1, z2, y0, y1, y2, z0', y0', blk_set_self, wr_pre hpl, wr_pre0 hpl, drop_pre hpl, drop_pre0 hpl, lc, cc, ll, cl, lk, ck, lr, cr, lj, cj, lt, ct, wr_succ, wr_zero, wr_none, set_set, Bool.and_self, if_false, List.length_append, List.length_cons, l1, p1, dk, l4, c4, wrap_in, decide_true, decide_false, if_true, Bool.false_eq_true]) | (rw [if_pos (by omega)]) | (with_reducible refine And.intro (by omega) ?_) | fail)
    rw [show flushD w t j = (cset w (drainC j) 0, { j with raw := j.raw ++ [cget w (drainC j)], k := j.k + 1, pc := 11 }) by unfold flushD; rw [if_neg (by omega), if_neg (by omega), if_neg (by omega), if_pos ek]]
    refine retK_nil ⟨rfl, MvR.fin (w' := cset w (drainC j) 0) (j' := { j with raw := j.raw ++ [cget w (drainC j)], k := j.k + 1, pc := 11 }) w4 hm0.in2 gZ kC kL2 ⟨vk, u4, Sk, T, rfl, rfl, f0, f1, f2, f3, f4, (by simp only [inI64]; omega), (by simp only [inI64]; omega), f7, f8, f9, f10, f11, f12, f13, f14, kK, o4⟩ hw (fun b h1 h2 _ => ?_) (Nat.le_refl _) ?_ ?_⟩
    · simp only [blk_set, if_neg h2]
    · simp only [blk_set, hne, if_false]; exact d0
    · exact blk_set_self _ _ _
  · have dk : decide (j.k + 1 = 32) = false := decide_eq_false (by omega)
    repeat' (first | simp -implicitDefEqProofs only [go_sem] | (simp -implicitDefEqProofs (disch := omega) only [d0, d1, d2, bB2, jB2, bB, jB, hne, hne', z0, z1, z2, y0, y1, y2, z0', y0', blk_set_self, wr_pre hpl, wr_pre0 hpl, drop_pre hpl, drop_pre0 hpl, lc, cc, ll, cl, lk, ck, lr, cr, lj, cj, lt, ct, wr_succ, wr_zero, wr_none, set_set, Bool.and_self, if_false, List.length_append, List.length_cons, l1, p1, dk, l4, c4, wrap_in, decide_true, decide_false, if_true, Bool.false_eq_true]) | (rw [if_pos (by omega)]) | (with_reducible refine And.intro (by omega) ?_) | fail)
    rw [show flushD w t j = (cset w (drainC j) 0, { j with raw := j.raw ++ [cget w (drainC j)], k := j.k + 1, pc := j.pc }) by unfold flushD; rw [if_neg (by omega), if_neg (by omega), if_neg (by omega), if_neg ek]]
    refine retK_nil ⟨rfl, MvR.fin (w' := cset w (drainC j) 0) (j' := { j with raw := j.raw ++ [cget w (drainC j)], k := j.k + 1, pc := j.pc }) w4 hm0.in2 gZ kC kL2 ⟨vk, u4, Sk, T, rfl, rfl, f0, f1, f2, f3, f4, f5, (by simp only [inI64]; omega), f7, f8, f9, f10, f11, f12, f13, f14, kK, o4⟩ hw (fun b h1 h2 _ => ?_) (Nat.le_refl _) ?_ ?_⟩
    · simp only [blk_set, if_neg h2]
    · simp only [blk_set, hne, if_false]; exact d0
    · exact blk_set_self _ _ _
end Go.Proofs.YtipfnhfcoolhaaaGreat.Aw
end
section
namespace Go.Proofs.YtipfnhfcoolhaaaGreat.Aw
open Go Go.RowKit
set_option maxRecDepth 100000
set_option maxHeartbeats 2000000
attribute [-go_sem] wr_eq
theorem all_encL {α : Type} [Ob α] [Own α] [Flat α] {xs : List α} (h : ∀ x ∈ xs, Flat.ok x) : (encL xs).all leafA = true := (Owns.ofFlat (⟨fun _ => none, 0⟩ : AH) h).reps (W0 := default) |>.leaf
theorem wr_at {A B C : List AV} {p : Nat} (hp : A.length = p) {cs : List AV} (hc : cs.length = B.length) : wr (A ++ (B ++ C)) p cs = A ++ (cs ++ C) := by
  subst hp
  simp [wr, hc]
theorem cut3 {L : List AV} {o m : Nat} (h : o + m ≤ L.length) : ∃ A B C, L = A ++ (B ++ C) ∧ A.length = o ∧ B = (L.drop o).take m ∧ B.length = m := by
  refine ⟨L.take o, (L.drop o).take m, (L.drop o).drop m, ?_, by simp; omega, rfl, by simp; omega⟩
  rw [List.take_append_drop, List.take_append_drop]
theorem cut2 {L : List AV} {m : Nat} (h : m ≤ L.length) : ∃ A B, L = A ++ B ∧ A.length = m := ⟨L.take m, L.drop m, (List.take_append_drop m L).symm, by simp; omega⟩
theorem dt_mid {A B C : List AV} {p m : Nat} (hp : A.length = p) (hm : B.length = m) : ((A ++ (B ++ C)).drop p).take m = B := by
  subst hp hm; simp
theorem elt_int : elt Tryz.prog 3 = none := by kernel_rfl
attribute [go_sem] elt_int
theorem overRowD_ok (W0 : World) {a1 a2 : AV} {H : AH} {b o n b' o' n' : Nat} {B B' : Blk} (h1 : slBlk a1 = some (b, o, n)) (h2 : slBlk a2 = some (b', o', n')) (hne : b ≠ b') (hB : H.blk b = some B) (hB' : H.blk b' = some B') : AExt Tryz.prog W0 262 [a1, a2] H (fun v H' => v = .v (.bool false) ∧ H' = H) :=
  over_ext (fn := Tryz.f262) (t := 24) (el := 71) Tryz.func262 (by kernel_rfl) (by kernel_rfl) (by kernel_rfl) (by kernel_rfl) (by kernel_rfl) elt_24 tyi_71 h1 h2 hne hB hB'
theorem InsertRowD_ok (W0 : World) (v : AV) (l : List RowD) (r : RowD) (i bv : Nat) (S : List Nat) (H : AH) (ho : OwnS H S v l) (hi : i ≤ l.length) (hl : l.length ≤ 1000000) (hr : Flat.ok r) (hbv : H.blk bv = some ⟨Flat.enc r, 10⟩) (hd : bv ∉ S) :
    ACalls Tryz.prog W0 225 [v, .v (.int .i64 i), .sl bv 0 1] H (fun u H' => ∃ S', OwnS H' S' u (l.take i ++ r :: l.drop i) ∧ Upd S H H' S') := by
  have hrl : (Flat.enc r).length = 10 := enc_len hr
  have hleaf : (Flat.enc r).all leafA = true := by have := all_encL (xs := [r]) (by simpa using hr); simpa [encL] using this
  have hoks : (∀ x ∈ l, Flat.ok x) → ∀ x ∈ l.take i ++ r :: l.drop i, Flat.ok x := by
    intro h x hx
    rcases List.mem_append.1 hx with hx | hx
    · exact h x (List.mem_of_mem_take hx)
    · rcases List.mem_cons.1 hx with rfl | hx
      · exact hr
      · exact h x (List.mem_of_mem_drop hx)
  have hlen : (l.take i ++ r :: l.drop i).length = l.length + 1 := by simp; omega
  have hnew : ∀ (H' : AH), H'.blk bv = some ⟨Flat.enc r, 10⟩ → slCells W0 H' 10 1 (.sl bv 0 1) = some (Flat.enc r) := by
    intro H' h
    simp only [slCells, Nat.le_refl, if_true, h, Option.bind_some, Nat.zero_add, Nat.one_mul, true_and, hrl, List.drop_zero]
    rw [List.take_of_length_le (by omega)]
  rcases ho.flat with ⟨rfl, rfl, rfl⟩ | ⟨b, o, cs, rfl, hB, hle, hbig, rfl, hcs, hok⟩
  · have hi0 : i = 0 := by simpa using hi
    subst hi0
    refine acallw Tryz.func225 rfl (by kernel_rfl) (by kernel_rfl) fun hc hw => ?_
    repeat' (first | simp -implicitDefEqProofs only [go_sem] | (refine app_nil (hnew _ (by assumption)) rfl hleaf (by decide) (fun h => absurd h (by decide)) (fun _ => ?_)) | refine acond_decF (by omega) ?_ | (with_reducible refine And.intro (by omega) ?_) | refine And.intro (by omega) (And.intro (by omega) ?_) | fail)
    refine retK_one ⟨[H.nxt], OwnS.ofFlat (cs := Flat.enc r) (by simp only [go_sem]; rfl) ?_ ?_ (by simp [big]) (by simpa using hr) rfl, Upd.ofSub (Sub.new hw (Sub.refl _) _ _) ⟨by simp, by simp⟩⟩
    · simp only [List.drop_zero, List.length_singleton, Nat.one_mul, encL, List.map_cons, List.map_nil, List.flatten_cons, List.flatten_nil, List.append_nil]; exact List.take_of_length_le (Nat.le_of_eq hrl)
    · simp [Ob.n, hrl]
  have hbne : bv ≠ b := by simpa using hd
  refine ACalls.wk (R := fun u H' => ∃ u' S', Wk u u' ∧ OwnS H' S' u' (l.take i ++ r :: l.drop i) ∧ Upd [b] H H' S') (acalls_cap (by kernel_rfl) hB hle fun c k hnc hck => ?_) (fun u H' ⟨u', S', k1, k2, k3⟩ => ⟨u', k1, S', k2, k3⟩)
  have hE1 : (encL (l.take i)).length = i * 10 := by rw [encL_len (fun x hx => hok x (List.mem_of_mem_take hx))]; simp [Ob.n]; omega
  have hE2 : (encL (l.drop i)).length = (l.length - i) * 10 := by rw [encL_len (fun x hx => hok x (List.mem_of_mem_drop hx))]; simp [Ob.n]
  have hok1 : ∀ x ∈ l.take i, Flat.ok x := fun x hx => hok x (List.mem_of_mem_take hx)
  have hok2 : ∀ x ∈ l.drop i, Flat.ok x := fun x hx => hok x (List.mem_of_mem_drop hx)
  have hEE : encL l = encL (l.take i) ++ encL (l.drop i) := by rw [← encL_append, List.take_append_drop]
  have hER : encL (l.take i ++ r :: l.drop i) = encL (l.take i) ++ (Flat.enc r ++ encL (l.drop i)) := by rw [encL_append, encL_cons]
  simp only [Ob.n] at hB hle hcs hck
  obtain ⟨A, D, hCS, hA, hDl⟩ : ∃ A D, cs ++ List.replicate k AV.dead = A ++ (encL (l.take i) ++ (encL (l.drop i) ++ D)) ∧ A.length = o ∧ o + c * 10 ≤ o + l.length * 10 + D.length := by
    obtain ⟨A, B, C, h1, h2, h3, h4⟩ := cut3 hle
    refine ⟨A, C ++ List.replicate k AV.dead, ?_, h2, ?_⟩
    · rw [← List.append_assoc (encL _), ← hEE, ← hcs, ← h3, h1]; simp
    · have := congrArg List.length h1
      simp only [List.length_append, List.length_replicate] at this hck ⊢
      omega
  rw [show (Ob.n RowD) = 10 from rfl, hCS]
  have hCl : (A ++ (encL (l.take i) ++ (encL (l.drop i) ++ D))).length = o + l.length * 10 + D.length := by
    simp only [List.length_append, hA, hE1, hE2, Nat.sub_mul]
    have : i * 10 ≤ l.length * 10 := Nat.mul_le_mul_right _ hi
    omega
  generalize hgc : A ++ (encL (l.take i) ++ (encL (l.drop i) ++ D)) = CS at *
  have hsrc : ∀ (H' : AH), H'.blk b = some ⟨CS, 10⟩ → ∀ q, slCells W0 H' 10 (l.length - i) (.slc b (o + i * 10) (l.length - i) q) = some (encL (l.drop i)) := by
    intro H' h q
    have h1 : o + i * 10 + (l.length - i) * 10 ≤ CS.length := by rw [hCl, Nat.sub_mul]; have : i * 10 ≤ l.length * 10 := Nat.mul_le_mul_right _ hi; omega
    simp only [slCells, Nat.le_refl, if_true, h, Option.bind_some, true_and]
    rw [if_pos h1, ← hgc, ← List.append_assoc, dt_mid (by simp [hA, hE1]) hE2]
  refine acallw Tryz.func225 rfl (by kernel_rfl) (by kernel_rfl) fun hc hw => ?_
  rcases Nat.lt_or_ge i l.length with hlt | hge
  · have hwr : IntKind.i64.wrap ((l.length : Int) + ((1 : Nat) : Int)) = ((l.length + 1 : Nat) : Int) := by rw [wrap_in _ (by omega) (by omega)]; simp
    have hwi : IntKind.i64.wrap ((i : Int) + ((1 : Nat) : Int)) = ((i + 1 : Nat) : Int) := by rw [wrap_in _ (by omega) (by omega)]; simp
    have hwm : IntKind.i64.wrap (((l.length + 1 : Nat) : Int) - (i : Int)) = ((l.length + 1 - i : Nat) : Int) := by rw [wrap_in _ (by omega) (by omega)]; omega
    have hln : i + (l.length + 1 - i) = l.length + 1 := by omega
    obtain ⟨z, hz, hty⟩ : ∃ z, z.length = 10 ∧ tyi Tryz.prog 71 = some ⟨true, 10, 88, z⟩ := ⟨_, rfl, tyi_71⟩
    have htk : (CS.drop o).take (i * 10) = encL (l.take i) := by rw [← hgc, ← hA, List.drop_left, ← hE1, List.take_left]
    obtain ⟨Z1, Z2, hZ, hZ1, hZ2⟩ : ∃ Z1 Z2, (CS.drop o).take (i * 10) ++ zerosA z (l.length + 1 - i) = encL (l.take i) ++ (Z1 ++ Z2) ∧ Z1.length = 10 ∧ Z2.length = (l.length - i) * 10 := by
      refine ⟨(zerosA z (l.length + 1 - i)).take 10, (zerosA z (l.length + 1 - i)).drop 10, by rw [htk, List.take_append_drop], ?_, ?_⟩ <;> simp only [List.length_take, List.length_drop, zerosA_length, hz]
      · rw [Nat.min_eq_left]; rw [show l.length + 1 - i = (l.length - i) + 1 by omega, Nat.add_mul]; omega
      · rw [show l.length + 1 - i = (l.length - i) + 1 by omega, Nat.add_mul]; omega
    have hm1 : min 1 (l.length + 1 - i) = 1 := by omega
    have hm2 : min (l.length - i) (l.length + 1 - (i + 1)) = l.length - i := by omega
    have hwr2 : ∀ Z : List AV, Z.length = (l.length - i) * 10 → wr (encL (l.take i) ++ (Flat.enc r ++ Z)) ((i + 1) * 10) (encL (l.drop i)) = encL (l.take i) ++ (Flat.enc r ++ encL (l.drop i)) := fun Z hZl => by
      have h := wr_at (A := encL (l.take i) ++ Flat.enc r) (B := Z) (C := []) (p := (i + 1) * 10) (by rw [List.length_append, hE1, hrl, Nat.add_mul, Nat.one_mul]) (cs := encL (l.drop i)) (hE2.trans hZl.symm)
      simpa using h
    have hbvn : bv ≠ H.nxt := fun h => by have h2 := hw.lt ((blk_set_ne H hbne ⟨CS, 10⟩).trans hbv); rw [h] at h2; exact absurd h2 (Nat.lt_irrefl _)
    have hbm : b ≠ H.nxt := fun h => by have h2 := hw.lt (blk_set_self H b ⟨CS, 10⟩); rw [h] at h2; exact absurd h2 (Nat.lt_irrefl _)
    repeat' (first | simp -implicitDefEqProofs only [go_sem] | (rw [hwr]) | (rw [hwi]) | (rw [hwm]) | (simp only [Nat.sub_zero, Int.toNat_natCast]) | refine acond_decF (by omega) ?_ | refine acond_dec (fun _ => ?_) (fun _ => ?_) | (with_reducible refine And.intro (by omega) ?_) | fail)
    · refine appz_slc hty (blk_set_self _ _ _) (by simp only; omega) (by omega) (by simp only; omega) (by omega) ?_ (by simp only; decide) (by simp only; decide) hz
      simp only [hln, hZ]
      repeat' (first | simp -implicitDefEqProofs only [go_sem] | (with_reducible refine And.intro (by omega) ?_) | fail)
      refine copy_rule (cs := encL (l.take i) ++ (Z1 ++ Z2)) (new := Flat.enc r) ?_ ?_ hleaf ?_ ?_
      · simp only [go_sem]
      · rw [hm1]; exact hnew _ (by simp only [go_sem, if_neg hbvn, if_neg hbne, hbv])
      · simp only [List.length_append, hE1, hZ1, hZ2, Nat.sub_mul, Nat.add_mul]
        have : i * 10 ≤ l.length * 10 := Nat.mul_le_mul_right _ hi
        omega
      rw [wr_at hE1 (hrl.trans hZ1.symm)]
      repeat' (first | simp -implicitDefEqProofs only [go_sem] | (simp only [if_neg hbm]) | (rw [hwi]) | (simp only [Int.toNat_natCast, hln]) | ((with_reducible refine adraw_seq ?_ ?_ ?_); (· kernel_rfl); (· decide +kernel)) | (with_reducible refine And.intro (by omega) ?_) | fail)
      refine copy_rule (cs := encL (l.take i) ++ (Flat.enc r ++ Z2)) (new := encL (l.drop i)) ?_ ?_ (all_encL hok2) ?_ ?_
      · simp only [go_sem]
      · rw [hm2]; exact hsrc _ (by simp only [go_sem, if_neg hbm]) _
      · simp only [List.length_append, hE1, hrl, hZ2, Nat.sub_mul, Nat.add_mul]
        have : i * 10 ≤ l.length * 10 := Nat.mul_le_mul_right _ hi
        omega
      rw [hwr2 _ hZ2]
      repeat' (first | simp -implicitDefEqProofs only [go_sem])
      refine retK_one ⟨_, [H.nxt], Wk.refl _, OwnS.ofFlat (cs := encL (l.take i) ++ (Flat.enc r ++ encL (l.drop i))) (by simp only [go_sem]; rfl) ?_ ?_ (by simp only [big]; omega) (hoks hok) (by omega), Nat.le_succ _, ?_, ?_, by simp⟩
      · rw [← hER, List.drop_zero]; exact List.take_of_length_le (by rw [encL_len (hoks hok)]; exact Nat.le_refl _)
      · rw [← hER, encL_len (hoks hok)]; omega
      · intro x B hx hB2
        have hxb : x ≠ b := by simpa using hx
        have hxn : x ≠ H.nxt := fun h => by have h2 := hw.lt ((blk_set_ne H hxb ⟨CS, 10⟩).trans hB2); rw [h] at h2; exact absurd h2 (Nat.lt_irrefl _)
        simp only [go_sem, if_neg hxb, if_neg hxn, hB2]
      · intro x hx; exact .inr (by simp at hx; omega)
    · refine ACallK.ofE (overRowD_ok _ rfl rfl hbne (by rw [blk_set_ne _ hbne]; exact hbv) (blk_set_self _ _ _)) ?_
      rintro _ _ ⟨rfl, rfl⟩
      have hcn : l.length + 1 ≤ c := by omega
      obtain ⟨E1, E2, E3, hE, e1, -, e3⟩ := cut3 (L := encL (l.drop i) ++ D) (o := 10) (m := (l.length - i) * 10) (by rw [List.length_append, hE2]; omega)
      have hCS2 : CS = A ++ (encL (l.take i) ++ (E1 ++ (E2 ++ E3))) := by rw [← hgc, hE]
      have w1 : wr CS (o + (i + 1) * 10) (encL (l.drop i)) = A ++ (encL (l.take i) ++ (E1 ++ (encL (l.drop i) ++ E3))) := by
        have h := wr_at (A := A ++ encL (l.take i) ++ E1) (B := E2) (C := E3) (p := o + (i + 1) * 10) (by simp only [List.length_append, hA, hE1, e1, Nat.add_mul]; omega) (cs := encL (l.drop i)) (hE2.trans e3.symm)
        rw [hCS2]; simpa using h
      have w2 : wr (A ++ (encL (l.take i) ++ (E1 ++ (encL (l.drop i) ++ E3)))) (o + i * 10) (Flat.enc r) = A ++ ((encL (l.take i) ++ (Flat.enc r ++ encL (l.drop i))) ++ E3) := by
        have h := wr_at (A := A ++ encL (l.take i)) (B := E1) (C := encL (l.drop i) ++ E3) (p := o + i * 10) (by simp only [List.length_append, hA, hE1]) (cs := Flat.enc r) (hrl.trans e1.symm)
        simpa using h
      have hsrc2 : slCells W0 (H.set b ⟨CS, 10⟩) 10 (l.length - i) (.slc b (o + i * 10) (l.length + 1 - i) (c - i)) = some (encL (l.drop i)) := by
        have h1 : o + i * 10 + (l.length - i) * 10 ≤ CS.length := by rw [hCl, Nat.sub_mul]; have : i * 10 ≤ l.length * 10 := Nat.mul_le_mul_right _ hi; omega
        simp only [slCells, blk_set_self, Option.bind_some, true_and]
        rw [if_pos (by omega), if_pos h1, ← hgc, ← List.append_assoc, dt_mid (by simp [hA, hE1]) hE2]
      have hm3 : min (l.length + 1 - i) (l.length + 1 - (i + 1)) = l.length - i := by omega
      have hm4 : min 1 (l.length + 1 - i) = 1 := by omega
      have hlC := congrArg List.length w1
      repeat' (first | simp -implicitDefEqProofs only [go_sem] | (rw [hwi]) | (simp only [Int.toNat_natCast, hln, Nat.sub_zero]) | ((with_reducible refine adraw_seq ?_ ?_ ?_); (· kernel_rfl); (· decide +kernel)) | (with_reducible refine And.intro (by omega) ?_) | fail)
      refine copy_rule (cs := CS) (new := encL (l.drop i)) (blk_set_self _ _ _) (by rw [hm3]; exact hsrc2) (all_encL hok2) ?_ ?_
      · rw [hCl, Nat.sub_mul, Nat.add_mul]; omega
      rw [w1]
      repeat' (first | simp -implicitDefEqProofs only [go_sem] | (with_reducible refine And.intro (by omega) ?_) | fail)
      refine copy_rule (cs := A ++ (encL (l.take i) ++ (E1 ++ (encL (l.drop i) ++ E3)))) (new := Flat.enc r) (blk_set_self _ _ _) (by rw [hm4]; exact hnew _ (by simp only [go_sem, if_neg hbne, hbv])) hleaf ?_ ?_
      · have : i * 10 ≤ l.length * 10 := Nat.mul_le_mul_right _ hi
        rw [← w1, wr_length _ _ _ (by rw [hCl, hE2, Nat.sub_mul, Nat.add_mul]; omega), hCl, Nat.sub_mul, Nat.add_mul]
        omega
      rw [w2]
      repeat' (first | simp -implicitDefEqProofs only [go_sem])
      refine retK_one ⟨_, [b], Wk.slc _ _ _ _, OwnS.ofFlat (cs := A ++ ((encL (l.take i) ++ (Flat.enc r ++ encL (l.drop i))) ++ E3)) (by simp only [go_sem]; rfl) ?_ ?_ (by simp only [big]; omega) (hoks hok) (by omega), Nat.le_refl _, ?_, fun x hx => .inl hx, by simp⟩
      · rw [← hER]; exact dt_mid hA (encL_len (hoks hok))
      · rw [← hER]
        have h2 := encL_len (hoks hok)
        revert h2
        generalize encL (_ ++ r :: _) = X
        intro h2
        rw [show (A ++ (X ++ E3)).length = o + (X.length + E3.length) by rw [List.length_append, List.length_append, hA], h2]; omega
      · intro x B hx hB2
        have hxb : x ≠ b := by simpa using hx
        simp only [go_sem, if_neg hxb, hB2]
  · have hie : i = l.length := by omega
    have htl : l.take i = l := by rw [hie]; exact List.take_of_length_le (Nat.le_refl _)
    have hdl : l.drop i = [] := by rw [hie]; exact List.drop_of_length_le (Nat.le_refl _)
    rw [htl, hdl] at hER
    rw [htl] at hE1
    repeat' (first | simp -implicitDefEqProofs only [go_sem] | (refine app_slc (blk_set_self _ _ _) (hnew _ (by rw [blk_set_ne _ hbne]; exact hbv)) rfl hleaf (by omega) (by omega) (by omega) (fun hcn => ?_) (fun hcn => ?_)) | refine acond_decF (by omega) ?_ | refine acond_decT (by omega) ?_ | (with_reducible refine And.intro (by omega) ?_) | fail)
    · obtain ⟨E1, E3, hE, e1⟩ := cut2 (L := D) (m := 10) (by omega)
      have w1 : wr CS (o + l.length * 10) (Flat.enc r) = A ++ ((encL l ++ (Flat.enc r ++ encL ([] : List RowD))) ++ E3) := by
        have h := wr_at (A := A ++ encL l) (B := E1) (C := E3) (p := o + l.length * 10) (by simp only [List.length_append, hA, hE1, hie]) (cs := Flat.enc r) (hrl.trans e1.symm)
        rw [← hgc, htl, hdl, hE]; simpa [encL] using h
      rw [w1, htl, hdl]
      rw [htl, hdl] at hoks hlen
      refine retK_one ⟨_, [b], Wk.slc _ _ _ _, OwnS.ofFlat (cs := A ++ ((encL l ++ (Flat.enc r ++ encL ([] : List RowD))) ++ E3)) (by simp only [go_sem]; rfl) ?_ ?_ (by simp only [big]; omega) (hoks hok) (by omega), Nat.le_refl _, ?_, fun x hx => .inl hx, by simp⟩
      · rw [← hER]; exact dt_mid hA (encL_len (hoks hok))
      · rw [← hER]
        have h2 := encL_len (hoks hok)
        revert h2
        generalize encL (_ ++ r :: _) = X
        intro h2
        rw [show (A ++ (X ++ E3)).length = o + (X.length + E3.length) by rw [List.length_append, List.length_append, hA], h2]; omega
      · intro x B hx hB2
        have hxb : x ≠ b := by simpa using hx
        simp only [go_sem, if_neg hxb, hB2]
    · have htk : (CS.drop o).take (l.length * 10) = encL l := by rw [← hgc, ← hA, List.drop_left, htl, ← (show (encL l).length = l.length * 10 by rw [hE1, hie]), List.take_left]
      have hcs3 : encL l ++ Flat.enc r = encL (l ++ r :: []) := by rw [hER]; simp [encL]
      rw [htk, htl, hdl, hcs3]
      rw [htl, hdl] at hoks hlen
      refine retK_one ⟨_, [H.nxt], Wk.refl _, OwnS.ofFlat (cs := encL (l ++ r :: [])) (by simp only [go_sem]; rfl) ?_ ?_ (by simp only [big]; omega) (hoks hok) (by omega), Nat.le_succ _, ?_, ?_, by simp⟩
      · rw [List.drop_zero]; exact List.take_of_length_le (by rw [encL_len (hoks hok)]; exact Nat.le_refl _)
      · rw [encL_len (hoks hok)]; omega
      · intro x B hx hB2
        have hxb : x ≠ b := by simpa using hx
        have hxn : x ≠ H.nxt := fun h => by have h2 := hw.lt ((blk_set_ne H hxb ⟨CS, 10⟩).trans hB2); rw [h] at h2; exact absurd h2 (Nat.lt_irrefl _)
        simp only [go_sem, if_neg hxb, if_neg hxn, hB2]
      · intro x hx; exact .inr (by simp at hx; omega)
end Go.Proofs.YtipfnhfcoolhaaaGreat.Aw
end
section
namespace Go.Proofs.YtipfnhfcoolhaaaGreat.Aw
open Go Go.RowKit
set_option maxRecDepth 100000
set_option maxHeartbeats 2000000
def kcmp (a b : ByteArray) : Int := if klt a b then -1 else if klt b a then 1 else 0
theorem kcmp_lt {a b : ByteArray} : kcmp a b < 0 ↔ klt a b := by
  unfold kcmp; split
  · simp_all
  · split <;> simp_all
theorem kcmp_eq {a b : ByteArray} : kcmp a b = 0 ↔ a = b := by
  unfold kcmp; split
  · constructor
    · intro h; cases h
    · rintro rfl; exact absurd (by assumption) (klt_irrefl _)
  · split
    · constructor
      · intro h; cases h
      · rintro rfl; exact absurd (by assumption) (klt_irrefl _)
    · constructor
      · intro _
        rcases klt_tri a b with h | h | h
        · exact absurd h (by assumption)
        · exact h
        · exact absurd h (by assumption)
      · intro _; rfl
theorem kcmp_of {a b : ByteArray} (n : Int) (h : (n = -1 ∧ klt a b) ∨ (n = 1 ∧ klt b a) ∨ (n = 0 ∧ a = b)) : n = kcmp a b := by
  rcases h with ⟨rfl, h⟩ | ⟨rfl, h⟩ | ⟨rfl, rfl⟩
  · simp [kcmp, h]
  · simp [kcmp, h, klt_asymm h]
  · exact (kcmp_eq.2 rfl).symm
theorem klt_gtr {a b : ByteArray} (h1 : Op.bytesLess a.toList b.toList = false) (h2 : ¬ a = b) : klt b a := by
  rcases klt_tri a b with h | rfl | h
  · unfold klt at h; rw [h1] at h; cases h
  · exact absurd rfl h2
  · exact h
theorem shr1 {P : Program} {t : TypeId} (a : Int) {H : AH} {K : Kt} : abinop (K := K) P .shr t (.v (.int .u64 a)) (.v (.int .u64 1)) H = K.k (.v (.int .u64 (a / 2))) H := by simp [abinop, abin, IntKind.bits, Int.fdiv_eq_ediv]
theorem u64_i64 {x : Int} (h1 : 0 ≤ x) (h2 : x < 18446744073709551616) : IntKind.u64.wrap (IntKind.i64.wrap x) = x := by
  unfold IntKind.wrap
  simp only [IntKind.bits, IntKind.signed]
  simp
  omega
theorem isNaNS_ok (W0 : World) (a : ByteArray) (H : AH) : ACalls Tryz.prog W0 261 [.v (.string a)] H (fun v H' => v = .v (.bool false) ∧ H' = H) := by
  refine acallw Tryz.func261 rfl (by kernel_rfl) (by kernel_rfl) fun hc hw => ?_
  repeat' (first | simp -implicitDefEqProofs only [go_sem] | refine retK_eq ?_)
theorem CompareS_ok (W0 : World) (a b : ByteArray) (H : AH) : ACalls Tryz.prog W0 223 [.v (.string a), .v (.string b)] H (fun v H' => v = .v (.int .i64 (kcmp a b)) ∧ H' = H) := by
  refine acallw Tryz.func223 rfl (by kernel_rfl) (by kernel_rfl) fun hc hw => ?_
  repeat' (first | simp -implicitDefEqProofs only [go_sem] | refine ACallK.eq (isNaNS_ok _ _ _) ?_ | refine acond_split (fun _ => ?_) (fun _ => ?_) | refine retK_eq ?_)
  · rw [← kcmp_of (-1) (.inl ⟨rfl, by assumption⟩)]
  · rw [← kcmp_of 1 (.inr (.inl ⟨rfl, klt_gtr (by assumption) (by simp_all)⟩))]
  · rw [← kcmp_of 0 (.inr (.inr ⟨rfl, by simp_all⟩))]
theorem put1_ok (W0 : World) (cs : List AV) (x : RowD) (key : ByteArray) (H : AH) (hx : Ob.rep W0 H cs x) : ACalls Tryz.prog W0 222 [.agg cs, .v (.string key)] H (fun v H' => v = .v (.int .i64 (kcmp x.key key)) ∧ H' = H) := by
  refine acallw Tryz.func222 rfl (by kernel_rfl) (by kernel_rfl) fun hc hw => ?_
  obtain ⟨rfl, hx⟩ := hx
  repeat' (first | simp -implicitDefEqProofs only [go_sem] | refine ACallK.eq (CompareS_ok _ _ _ _) ?_ | refine retK_back (by assumption) ?_ | fail)
theorem At.lo {α : Type} {kf : α → ByteArray} {l : List α} {key : ByteArray} {h i j : Nat} (hs : SortedK kf l) (h1 : h < l.length) (hk : klt (kf l[h]) key) : ∀ k (hk : k < l.length), k < h + 1 → klt (kf l[k]) key := fun k h2 h3 => by
  rcases Nat.lt_succ_iff_lt_or_eq.1 h3 with h4 | rfl
  · exact klt_trans (List.pairwise_iff_getElem.1 hs k h h2 h1 h4) hk
  · exact hk
theorem At.hi {α : Type} {kf : α → ByteArray} {l : List α} {key : ByteArray} {h i j : Nat} (hs : SortedK kf l) (h1 : h < l.length) (hk : ¬ klt (kf l[h]) key) : ∀ k (hk : k < l.length), h ≤ k → ¬ klt (kf l[k]) key := fun k h2 h3 h5 => by
  rcases Nat.lt_or_ge h k with h4 | h4
  · exact hk (klt_trans (List.pairwise_iff_getElem.1 hs h k h1 h2 h4) h5)
  · obtain rfl : h = k := by omega
    exact hk h5
theorem BinarySearchFuncRow_ok (W0 : World) (a : AV) (l : List RowD) (key : ByteArray) (g : FuncId) (H : AH) (ha : SlR W0 H a l) (hs : SortedK RowD.key l) (hp : ∀ (cs : List AV) (x : RowD), Ob.rep W0 H cs x → ACalls Tryz.prog W0 g [.agg cs, .v (.string key)] H (fun v H' => v = .v (.int .i64 (kcmp x.key key)) ∧ H' = H)) :
    ACalls Tryz.prog W0 221 [a, .v (.string key), .fn g []] H (fun v H' => (∃ i : Nat, At RowD.key l key i ∧ v = .tup [.v (.int .i64 i), .v (.bool (hasK RowD.key l key))]) ∧ H' = H) := by
  refine acallw Tryz.func221 rfl (by kernel_rfl) (by kernel_rfl) fun hc hw => ?_
  have hb := ha.2.1; simp only [big] at hb
  repeat' (first | simp -implicitDefEqProofs only [go_sem] | refine abi_len_sl' (by assumption) ?_ | fail)
  refine acode_while (fun (p : Nat × Nat) => [(0, a), (1, .v (.string key)), (2, .fn g []), (8, .v (.int .i64 l.length)), (9, .v (.int .i64 p.1)), (10, .v (.int .i64 p.2))]) (fun (p : Nat × Nat) (H' : AH) => H' = H ∧ p.1 ≤ p.2 ∧ p.2 ≤ l.length ∧ (∀ (k : Nat) (h : k < l.length), k < p.1 → klt l[k].key key) ∧ (∀ (k : Nat) (h : k < l.length), p.2 ≤ k → ¬ klt l[k].key key)) (fun p => p.2 - p.1) (0, l.length) ⟨rfl, by omega, by simp only; omega, fun k _ h => by simp only at h; omega, fun k h h2 => by simp only at h2; omega⟩ ?_
  rintro ⟨i, j⟩ _ ⟨rfl, hij, hj, hP, hQ⟩
  simp only at hij hj hP hQ ⊢
  have hm1 : IntKind.u64.wrap (IntKind.i64.wrap ((i : Int) + (j : Int))) = ((i + j : Nat) : Int) := by rw [u64_i64 (by omega) (by omega)]; simp
  have hm2 : ((i + j : Nat) : Int) / 2 = (((i + j) / 2 : Nat) : Int) := by omega
  generalize hmid : (i + j) / 2 = m at hm2
  repeat' (first | simp -implicitDefEqProofs only [go_sem] | refine acond_dec (fun _ => ?_) (fun _ => ?_) | refine agrd_dec (fun _ => ?_) (fun _ => ?_) | refine aixs_sln (by assumption) ?_ | (refine aK_slw (by assumption) (by omega) ?_; intro _ _) | simp -implicitDefEqProofs (disch := omega) only [wrap_in, u8_small, Int.tmod_eq_emod_of_nonneg, Int.tdiv_eq_ediv_of_nonneg] | refine ACallK.eq (hp _ _ (by assumption)) ?_ | (rw [hm1, shr1, hm2]) | (refine retK_two ?_))
  · exact back (m + 1, j) ⟨by simp only; omega, by simp only; omega, At.lo (i := 0) (j := 0) hs (by omega) (kcmp_lt.1 (by assumption)), hQ⟩ (by simp only; omega)
  · exact back (i, m) ⟨by simp only; omega, by simp only; omega, hP, At.hi (i := 0) (j := 0) hs (by omega) (fun h => absurd (kcmp_lt.2 h) (by assumption))⟩ (by simp only; omega)
  · have hij2 : i = j := by omega
    subst hij2
    have hA : At RowD.key l key i := ⟨by omega, hP, hQ⟩
    refine ⟨i, hA, ?_⟩
    rw [hA.has hs]
    congr 5
    rw [Bool.eq_iff_iff, decide_eq_true_eq, decide_eq_true_eq, kcmp_eq]
    exact ⟨fun h => ⟨by omega, h⟩, fun ⟨_, h⟩ => h⟩
  · have hij2 : i = j := by omega
    subst hij2
    have hA : At RowD.key l key i := ⟨by omega, hP, hQ⟩
    refine ⟨i, hA, ?_⟩
    rw [hA.has hs, decide_eq_false (by rintro ⟨h, _⟩; omega)]
end Go.Proofs.YtipfnhfcoolhaaaGreat.Aw
end
