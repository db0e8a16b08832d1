/- Parts of a proof: Fwv. -/
import Derived.Test.YtipfnhfcoolhaaaGreatK14
import Derived.Test.YtipfnhfcoolhaaaGreatK11
set_option linter.unusedVariables false
set_option linter.unusedSimpArgs false
namespace Go.Proofs.YtipfnhfcoolhaaaGreat.Aw
open Go Go.RowKit
set_option maxRecDepth 100000
set_option maxHeartbeats 2000000
attribute [-go_sem] wr_eq
theorem OwnS.kq {α : Type} [Ob α] [Own α] {H H1 : AH} {T Sc : List Nat} {v : AV} {xs : List α} (h : OwnS H T v xs) (kq : ∀ b B, b ∉ Sc → H.blk b = some B → H1.blk b = some B) (hd : ∀ b ∈ T, b ∉ Sc) : OwnS H1 T v xs :=
  h.eq fun b hb => by obtain ⟨B, hB⟩ := Option.isSome_iff_exists.1 (h.isin b hb); rw [hB, kq b B (hd b hb) hB]
theorem ACallK.adds {P : Program} {W0 : World} {K : Kt} {g : FuncId} {xs : List AV} {H0 H : AH} {Sc Sl Sj : List Nat} {w w' : WorldD} {vc vl r : AV} (h : ACalls P W0 g xs H (fun v H' => v = r ∧ Upd Sc H H' Sc ∧ OwnS H' Sc vc w'.cells)) (hlog : w'.log = w.log) (hs : Sub H0 H) (hn : (Sc ++ (Sl ++ Sj)).Nodup) (ol : OwnS H Sl vl w.log)
    (k : ∀ H1, H1.wf → OwnS H1 Sc vc w'.cells → OwnS H1 Sl vl w'.log → Upd (Sc ++ (Sl ++ Sj)) H0 H1 (Sc ++ (Sl ++ Sj)) → (∀ b B, b ∉ Sc → H.blk b = some B → H1.blk b = some B) → H.nxt ≤ H1.nxt → K.k r H1) : ACallK (K := K) P W0 g xs H := by
  refine ACallK.of h.cl ?_
  rintro _ H1 ⟨⟨rfl, g1, o1⟩, c1⟩
  obtain ⟨n1, n2, n3⟩ := List.nodup_append.1 hn
  refine k H1 c1.1 o1 ?_ ?_ g1.2.1 g1.1
  · rw [hlog]; exact g1.own ol (fun b hb hm => n3 b hm b (List.mem_append_left _ hb) rfl)
  · exact ⟨Nat.le_trans hs.1 g1.1, fun b B hb hB => g1.2.1 b B (fun hm => hb (List.mem_append_left _ hm)) (hs.2 b B hB), fun b hb => .inl hb, hn⟩
theorem l11Write_ok (W0 : World) (vc vj vt vl : AV) (cj : List AV) (w : WorldD) (t : Nat) (j : JobD) (S : List Nat) (H : AH) (hp : SpP H S w j t vc vj vt vl cj) (hd : DataP w j) (hpc : 2 ≤ j.pc ∧ j.pc ≤ 10) (hk : j.pc = 8 → 0 ≤ j.k ∧ j.k ≤ 2) :
    ACalls Tryz.prog W0 148 [.agg (wcs vc vj vt vl w), .v (.int .i64 t), .agg cj] H (SpR H S vj vt (writeD w t j)) := by
  refine acallw Tryz.func148 rfl (by kernel_rfl) (by kernel_rfl) fun hc hw => ?_
  have hp0 := hp
  have hd0 := hd
  have hll := hp.ll
  obtain ⟨hs, hl, hj, ht, hnw, htt⟩ := hp
  have hs0 := hs
  obtain ⟨hn, Sc, Sl, Sj, rfl, oc, ol, oj⟩ := hs
  obtain ⟨vk, vr, Sk, Sr, rfl, rfl, f0, f1, f2, f3, f4, f5, f6, f7, f8, f9, f10, f11, f12, f13, f14, f15, f16⟩ := oj
  have lc := oc.leaf; have cc := oc.one
  have ll := ol.leaf; have cl := ol.one
  have lk := f15.leaf; have ck := f15.one
  have lr := f16.leaf; have cr := f16.one
  have hnS : ∀ b ∈ Sc ++ (Sl ++ (Sk ++ Sr)), b < H.nxt := fun b hb => hw.lt' (hs0.isin b hb)
  obtain ⟨lj, cj⟩ := hj
  obtain ⟨lt, ct⟩ := ht
  simp only [wcs]
  obtain ⟨hok, he, hslot, hval⟩ := hd
  obtain ⟨hb1, hb2, hb3, hb4⟩ := DataP.base ⟨hok, he, hslot, hval⟩
  have hlen := cellsOk_len hok
  have hu := oc.slr (W0 := W0)
  have et : j.e.tmod 2 = j.e % 2 := Int.tmod_eq_emod_of_nonneg he.1
  obtain ⟨n1, -, n3⟩ := List.nodup_append.1 hn
  have hnc : ∀ b ∈ Sc, b < H.nxt := fun b hb => hnS b (List.mem_append_left _ hb)
  have hcg : ∀ i, 0 ≤ cget w i ∧ cget w i ≤ 281474976710655 := fun i => cellsOk_get hok i
  have hI := getD_I hu
  rcases (by omega : j.pc = 2 ∨ j.pc = 3 ∨ j.pc = 4 ∨ j.pc = 5 ∨ j.pc = 6 ∨ j.pc = 7 ∨ j.pc = 8 ∨ j.pc = 9 ∨ j.pc = 10) with e | e | e | e | e | e | e | e | e
  · have d : ∀ x, decide (j.pc = x) = decide ((2 : Int) = x) := fun x => by rw [e]
    have hI0 := hI 0
    repeat' (first | simp -implicitDefEqProofs only [go_sem] | (simp -implicitDefEqProofs only [lc, cc, ll, cl, lk, ck, lr, cr, lj, cj, lt, ct, wr_succ, wr_zero, wr_none, set_set, Bool.and_self, d, et, Int.reduceEq, decide_true, decide_false, if_true, if_false, Bool.false_eq_true]) | (refine ixI hu ?_ (by omega) (by omega) (by rfl) (by exact by repeat (first | exact Sub.refl _ | assumption | refine Sub.new hc.1 ?_ _ _ | refine Sub.set hc.1 ?_ (by omega) _ | refine Sub.trans ?_ (by assumption)))) | (refine rdI hu ?_ (by omega) (by rfl) (by exact by repeat (first | exact Sub.refl _ | assumption | refine Sub.new hc.1 ?_ _ _ | refine Sub.set hc.1 ?_ (by omega) _ | refine Sub.trans ?_ (by assumption)))) | ((with_reducible refine adraw_plan [(0, []), (1, []), (2, [1]), (3, [])] ?_ ?_ ?_); (· kernel_rfl); (· decide +kernel)))
    rw [show writeD w t j = (w, { j with e := cget w 0, pc := 3 }) by unfold writeD; rw [if_pos e]]
    refine retK_two (SpR.fin (p := (w, { j with e := cget w 0, pc := 3 })) hw (Upd.idle (Sub.refl H) hn) ⟨hn, Sc, Sl, Sk ++ Sr, rfl, oc, ol, vk, vr, Sk, Sr, rfl, rfl, f0, f1, f2, f3, f4, (by simp only [inI64]; omega), f6, f7, f8, hI0, f10, f11, f12, f13, f14, f15, f16⟩ (fun b hb => .inl (hnS b hb)) (fun b hb => ?_) (Nat.le_add_right _ 4))
    simp only [go_sem, (show ¬ b = H.nxt by omega), (show ¬ b = H.nxt + 1 by omega), (show ¬ b = H.nxt + 2 by omega), (show ¬ b = H.nxt + 3 by omega), if_false]
  · have d : ∀ x, decide (j.pc = x) = decide ((3 : Int) = x) := fun x => by rw [e]
    repeat' (first | simp -implicitDefEqProofs only [go_sem] | (simp -implicitDefEqProofs only [lc, cc, ll, cl, lk, ck, lr, cr, lj, cj, lt, ct, wr_succ, wr_zero, wr_none, set_set, Bool.and_self, d, et, Int.reduceEq, decide_true, decide_false, if_true, if_false, Bool.false_eq_true]) | (refine ACallK.eq (InCell_spec _ _ _) ?_; rw [if_pos (by omega)]) | ((with_reducible refine adraw_plan [(0, []), (1, []), (2, [0]), (3, []), (4, []), (5, []), (6, []), (7, [6])] ?_ ?_ ?_); (· kernel_rfl); (· decide +kernel)))
    refine ACallK.adds (w' := cadd w (1 + j.e % 2).toNat 1) (H0 := H) (l11Add_ok _ vc vj vt vl w (1 + j.e % 2) 1 Sc _ (oc.sub (by exact by repeat (first | exact Sub.refl _ | assumption | refine Sub.new hc.1 ?_ _ _ | refine Sub.set hc.1 ?_ (by omega) _ | refine Sub.trans ?_ (by assumption)))) n1 ⟨lj, cj⟩ ⟨lt, ct⟩ ⟨ll, cl⟩ hok (by omega) (by omega)) rfl (by exact by repeat (first | exact Sub.refl _ | assumption | refine Sub.new hc.1 ?_ _ _ | refine Sub.set hc.1 ?_ (by omega) _ | refine Sub.trans ?_ (by assumption))) hn (ol.sub (by exact by repeat (first | exact Sub.refl _ | assumption | refine Sub.new hc.1 ?_ _ _ | refine Sub.set hc.1 ?_ (by omega) _ | refine Sub.trans ?_ (by assumption)))) ?_
    intro H1 w1 oc1 ol1 g1 kq m1
    simp only [wcs]
    have ei : (1 + j.e % 2).toNat = inD j := by unfold inD; omega
    rw [ei] at oc1 ol1
    simp only [go_sem] at m1
    have k1 := OwnS.kq (f15.sub (by exact by repeat (first | exact Sub.refl _ | assumption | refine Sub.new hc.1 ?_ _ _ | refine Sub.set hc.1 ?_ (by omega) _ | refine Sub.trans ?_ (by assumption)))) kq (fun b hb hm => n3 b hm b (List.mem_append_right _ (List.mem_append_left _ hb)) rfl)
    have k2 := OwnS.kq (f16.sub (by exact by repeat (first | exact Sub.refl _ | assumption | refine Sub.new hc.1 ?_ _ _ | refine Sub.set hc.1 ?_ (by omega) _ | refine Sub.trans ?_ (by assumption)))) kq (fun b hb hm => n3 b hm b (List.mem_append_right _ (List.mem_append_right _ hb)) rfl)
    have a0 := kq H.nxt _ (fun hm => by have := hnc _ hm; omega) (by simp only [go_sem]; rfl)
    have a1 := kq (H.nxt + 1) _ (fun hm => by have := hnc _ hm; omega) (by simp only [go_sem]; rfl)
    have a2 := kq (H.nxt + 2) _ (fun hm => by have := hnc _ hm; omega) (by simp only [go_sem]; rfl)
    have a3 := kq (H.nxt + 3) _ (fun hm => by have := hnc _ hm; omega) (by simp only [go_sem]; rfl)
    repeat' (first | simp -implicitDefEqProofs only [go_sem] | (simp -implicitDefEqProofs only [a0, a1, a2, a3, refl_set a0, lc, cc, ll, cl, lk, ck, lr, cr, lj, cj, lt, ct, wr_succ, wr_zero, wr_none, set_set, Bool.and_self, blk_set_self]) | ((with_reducible refine adraw_plan [(0, []), (1, []), (2, [1]), (3, [])] ?_ ?_ ?_); (· kernel_rfl); (· decide +kernel)))
    rw [show writeD w t j = (cadd w (inD j) 1, { j with pc := 4 }) by unfold writeD; rw [if_neg (by omega), if_pos e]]
    refine retK_two (SpR.fin (p := (cadd w (inD j) 1, { j with pc := 4 })) hw g1 ⟨hn, Sc, Sl, Sk ++ Sr, rfl, oc1, ol1, vk, vr, Sk, Sr, rfl, rfl, f0, f1, f2, f3, f4, (by simp only [inI64]; omega), f6, f7, f8, f9, f10, f11, f12, f13, f14, k1, k2⟩ (fun b hb => .inl (hnS b hb)) (fun b hb => ?_) (Nat.le_refl _))
    simp only [blk_set, (show ¬ b = H.nxt by omega), (show ¬ b = H.nxt + 1 by omega), (show ¬ b = H.nxt + 2 by omega), (show ¬ b = H.nxt + 3 by omega), if_false]
  · have d : ∀ x, decide (j.pc = x) = decide ((4 : Int) = x) := fun x => by rw [e]
    by_cases ec : cget w 0 = j.e
    · have dc : decide (w.cells.getD 0 0 = j.e) = true := decide_eq_true ec
      repeat' (first | simp -implicitDefEqProofs only [go_sem] | (simp -implicitDefEqProofs only [lc, cc, ll, cl, lk, ck, lr, cr, lj, cj, lt, ct, wr_succ, wr_zero, wr_none, set_set, Bool.and_self, d, et, Int.reduceEq, decide_true, decide_false, if_true, if_false, Bool.false_eq_true, dc]) | (refine ixI hu ?_ (by omega) (by omega) (by rfl) (by exact by repeat (first | exact Sub.refl _ | assumption | refine Sub.new hc.1 ?_ _ _ | refine Sub.set hc.1 ?_ (by omega) _ | refine Sub.trans ?_ (by assumption)))) | (refine rdI hu ?_ (by omega) (by rfl) (by exact by repeat (first | exact Sub.refl _ | assumption | refine Sub.new hc.1 ?_ _ _ | refine Sub.set hc.1 ?_ (by omega) _ | refine Sub.trans ?_ (by assumption)))) | ((with_reducible refine adraw_seq ?_ ?_ ?_); (· kernel_rfl); (· decide +kernel)) | ((with_reducible refine adraw_plan [(0, []), (1, []), (2, [1]), (3, [])] ?_ ?_ ?_); (· kernel_rfl); (· decide +kernel)))
      rw [show writeD w t j = (w, { j with pc := 5 }) by unfold writeD; rw [if_neg (by omega), if_neg (by omega), if_pos e, if_pos ec]]
      refine retK_two (SpR.fin (p := (w, { j with pc := 5 })) hw (Upd.idle (Sub.refl H) hn) ⟨hn, Sc, Sl, Sk ++ Sr, rfl, oc, ol, vk, vr, Sk, Sr, rfl, rfl, f0, f1, f2, f3, f4, (by simp only [inI64]; omega), f6, f7, f8, f9, f10, f11, f12, f13, f14, f15, f16⟩ (fun b hb => .inl (hnS b hb)) (fun b hb => ?_) (Nat.le_add_right _ 4))
      simp only [go_sem, (show ¬ b = H.nxt by omega), (show ¬ b = H.nxt + 1 by omega), (show ¬ b = H.nxt + 2 by omega), (show ¬ b = H.nxt + 3 by omega), if_false]
    · have dc : decide (w.cells.getD 0 0 = j.e) = false := decide_eq_false ec
      repeat' (first | simp -implicitDefEqProofs only [go_sem] | (simp -implicitDefEqProofs only [lc, cc, ll, cl, lk, ck, lr, cr, lj, cj, lt, ct, wr_succ, wr_zero, wr_none, set_set, Bool.and_self, d, et, Int.reduceEq, decide_true, decide_false, if_true, if_false, Bool.false_eq_true, dc]) | (refine ixI hu ?_ (by omega) (by omega) (by rfl) (by exact by repeat (first | exact Sub.refl _ | assumption | refine Sub.new hc.1 ?_ _ _ | refine Sub.set hc.1 ?_ (by omega) _ | refine Sub.trans ?_ (by assumption)))) | (refine rdI hu ?_ (by omega) (by rfl) (by exact by repeat (first | exact Sub.refl _ | assumption | refine Sub.new hc.1 ?_ _ _ | refine Sub.set hc.1 ?_ (by omega) _ | refine Sub.trans ?_ (by assumption)))) | ((with_reducible refine adraw_seq ?_ ?_ ?_); (· kernel_rfl); (· decide +kernel)) | ((with_reducible refine adraw_plan [(0, []), (1, []), (2, [1]), (3, [])] ?_ ?_ ?_); (· kernel_rfl); (· decide +kernel)))
      rw [show writeD w t j = (w, { j with pc := 10 }) by unfold writeD; rw [if_neg (by omega), if_neg (by omega), if_pos e, if_neg ec]]
      refine retK_two (SpR.fin (p := (w, { j with pc := 10 })) hw (Upd.idle (Sub.refl H) hn) ⟨hn, Sc, Sl, Sk ++ Sr, rfl, oc, ol, vk, vr, Sk, Sr, rfl, rfl, f0, f1, f2, f3, f4, (by simp only [inI64]; omega), f6, f7, f8, f9, f10, f11, f12, f13, f14, f15, f16⟩ (fun b hb => .inl (hnS b hb)) (fun b hb => ?_) (Nat.le_add_right _ 4))
      simp only [go_sem, (show ¬ b = H.nxt by omega), (show ¬ b = H.nxt + 1 by omega), (show ¬ b = H.nxt + 2 by omega), (show ¬ b = H.nxt + 3 by omega), if_false]
  · have d : ∀ x, decide (j.pc = x) = decide ((5 : Int) = x) := fun x => by rw [e]
    repeat' (first | simp -implicitDefEqProofs only [go_sem] | (simp -implicitDefEqProofs only [lc, cc, ll, cl, lk, ck, lr, cr, lj, cj, lt, ct, wr_succ, wr_zero, wr_none, set_set, Bool.and_self, d, et, Int.reduceEq, decide_true, decide_false, if_true, if_false, Bool.false_eq_true]))
    refine ACallK.spr (l11Data_ok _ vc vj vt vl _ w t j _ _ (hp0.sub (by exact by repeat (first | exact Sub.refl _ | assumption | refine Sub.new hc.1 ?_ _ _ | refine Sub.set hc.1 ?_ (by omega) _ | refine Sub.trans ?_ (by assumption)))) hd0) hw (by exact by repeat (first | exact Sub.refl _ | assumption | refine Sub.new hc.1 ?_ _ _ | refine Sub.set hc.1 ?_ (by omega) _ | refine Sub.trans ?_ (by assumption))) hnS ?_
    intro vc2 vl2 cj2 H2 S2 w2 hs2 g2 kq m2 hS2
    have hs20 := hs2
    obtain ⟨hn2, Sc2, Sl2, Sj2, rfl, oc2, ol2, oj2⟩ := hs2
    obtain ⟨vk2, vr2, Sk2, Sr2, rfl, rfl, f_20, f_21, f_22, f_23, f_24, f_25, f_26, f_27, f_28, f_29, f_210, f_211, f_212, f_213, f_214, f_215, f_216⟩ := oj2
    have lc2 := oc2.leaf; have cc2 := oc2.one
    have ll2 := ol2.leaf; have cl2 := ol2.one
    have lk2 := f_215.leaf; have ck2 := f_215.one
    have lr2 := f_216.leaf; have cr2 := f_216.one
    simp only [wcs]
    have a2 := kq (H.nxt + 2) _ (fun hm => by have := hnS _ hm; omega) (by simp only [go_sem]; rfl)
    have a3 := kq (H.nxt + 3) _ (fun hm => by have := hnS _ hm; omega) (by simp only [go_sem]; rfl)
    repeat' (first | simp -implicitDefEqProofs only [go_sem] | (simp -implicitDefEqProofs only [a2, a3, lc2, cc2, ll2, cl2, lk2, ck2, lr2, cr2, lj, cj, lt, ct, wr_succ, wr_zero, wr_none, set_set, blk_set_self, Bool.and_self]))
    simp only [go_sem] at hS2
    rw [show writeD w t j = dataD w t j by unfold writeD; rw [if_neg (by omega), if_neg (by omega), if_neg (by omega), if_pos e]]
    refine retK_two (SpR.fin (p := dataD w t j) hw g2 hs20 (fun b hb => by have := hS2 b hb; omega) (fun b hb => ?_) (Nat.le_refl _))
    simp only [blk_set, (show ¬ b = H.nxt by omega), (show ¬ b = H.nxt + 1 by omega), (show ¬ b = H.nxt + 2 by omega), (show ¬ b = H.nxt + 3 by omega), if_false]
  · have d : ∀ x, decide (j.pc = x) = decide ((6 : Int) = x) := fun x => by rw [e]
    have eg : (slotBase (j.e % 2) j.slot + 3).toNat = baseD j + 3 := by omega
    have hIg := hI (baseD j + 3)
    by_cases ec : j.stamp < (unpackGauge (cget w (baseD j + 3))).1
    · have dc : decide ((unpackGauge (w.cells.getD (baseD j + 3) 0)).1 > j.stamp) = true := decide_eq_true ec
      repeat' (first | simp -implicitDefEqProofs only [go_sem] | (simp -implicitDefEqProofs only [lc, cc, ll, cl, lk, ck, lr, cr, lj, cj, lt, ct, wr_succ, wr_zero, wr_none, set_set, Bool.and_self, d, et, Int.reduceEq, decide_true, decide_false, if_true, if_false, Bool.false_eq_true, dc]) | (refine ACallK.eq (GaugeCell_spec _ _ _ _) ?_; rw [cellC, if_pos (by omega)]) | (refine ixI hu ?_ (by omega) (by omega) (by rfl) (by exact by repeat (first | exact Sub.refl _ | assumption | refine Sub.new hc.1 ?_ _ _ | refine Sub.set hc.1 ?_ (by omega) _ | refine Sub.trans ?_ (by assumption)))) | (refine rdI hu ?_ (by omega) (by rfl) (by exact by repeat (first | exact Sub.refl _ | assumption | refine Sub.new hc.1 ?_ _ _ | refine Sub.set hc.1 ?_ (by omega) _ | refine Sub.trans ?_ (by assumption)))) | (rw [eg]) | (refine ACallK.eq (UnpackGauge_spec _ _ _ hIg) ?_) | ((with_reducible refine adraw_plan [(0, []), (1, []), (2, []), (3, []), (4, []), (5, [0, 1]), (6, []), (7, []), (8, []), (9, [])] ?_ ?_ ?_); (· kernel_rfl); (· decide +kernel)) | ((with_reducible refine adraw_plan [(0, []), (1, []), (2, [1]), (3, [])] ?_ ?_ ?_); (· kernel_rfl); (· decide +kernel)))
      rw [show writeD w t j = (w, { j with old := cget w (baseD j + 3), pc := 9 }) by unfold writeD; rw [if_neg (by omega), if_neg (by omega), if_neg (by omega), if_neg (by omega), if_pos e, if_pos ec]]
      refine retK_two (SpR.fin (p := (w, { j with old := cget w (baseD j + 3), pc := 9 })) hw (Upd.idle (Sub.refl H) hn) ⟨hn, Sc, Sl, Sk ++ Sr, rfl, oc, ol, vk, vr, Sk, Sr, rfl, rfl, f0, f1, f2, f3, f4, (by simp only [inI64]; omega), f6, f7, f8, f9, f10, hIg, f12, f13, f14, f15, f16⟩ (fun b hb => .inl (hnS b hb)) (fun b hb => ?_) (Nat.le_add_right _ 4))
      simp only [go_sem, (show ¬ b = H.nxt by omega), (show ¬ b = H.nxt + 1 by omega), (show ¬ b = H.nxt + 2 by omega), (show ¬ b = H.nxt + 3 by omega), if_false]
    · have dc : decide ((unpackGauge (w.cells.getD (baseD j + 3) 0)).1 > j.stamp) = false := decide_eq_false ec
      repeat' (first | simp -implicitDefEqProofs only [go_sem] | (simp -implicitDefEqProofs only [lc, cc, ll, cl, lk, ck, lr, cr, lj, cj, lt, ct, wr_succ, wr_zero, wr_none, set_set, Bool.and_self, d, et, Int.reduceEq, decide_true, decide_false, if_true, if_false, Bool.false_eq_true, dc]) | (refine ACallK.eq (GaugeCell_spec _ _ _ _) ?_; rw [cellC, if_pos (by omega)]) | (refine ixI hu ?_ (by omega) (by omega) (by rfl) (by exact by repeat (first | exact Sub.refl _ | assumption | refine Sub.new hc.1 ?_ _ _ | refine Sub.set hc.1 ?_ (by omega) _ | refine Sub.trans ?_ (by assumption)))) | (refine rdI hu ?_ (by omega) (by rfl) (by exact by repeat (first | exact Sub.refl _ | assumption | refine Sub.new hc.1 ?_ _ _ | refine Sub.set hc.1 ?_ (by omega) _ | refine Sub.trans ?_ (by assumption)))) | (rw [eg]) | (refine ACallK.eq (UnpackGauge_spec _ _ _ hIg) ?_) | ((with_reducible refine adraw_plan [(0, []), (1, []), (2, []), (3, []), (4, []), (5, [0, 1]), (6, []), (7, []), (8, []), (9, [])] ?_ ?_ ?_); (· kernel_rfl); (· decide +kernel)) | ((with_reducible refine adraw_plan [(0, []), (1, []), (2, [1]), (3, [])] ?_ ?_ ?_); (· kernel_rfl); (· decide +kernel)))
      rw [show writeD w t j = (w, { j with old := cget w (baseD j + 3), pc := 7 }) by unfold writeD; rw [if_neg (by omega), if_neg (by omega), if_neg (by omega), if_neg (by omega), if_pos e, if_neg ec]]
      refine retK_two (SpR.fin (p := (w, { j with old := cget w (baseD j + 3), pc := 7 })) hw (Upd.idle (Sub.refl H) hn) ⟨hn, Sc, Sl, Sk ++ Sr, rfl, oc, ol, vk, vr, Sk, Sr, rfl, rfl, f0, f1, f2, f3, f4, (by simp only [inI64]; omega), f6, f7, f8, f9, f10, hIg, f12, f13, f14, f15, f16⟩ (fun b hb => .inl (hnS b hb)) (fun b hb => ?_) (Nat.le_add_right _ 4))
      simp only [go_sem, (show ¬ b = H.nxt by omega), (show ¬ b = H.nxt + 1 by omega), (show ¬ b = H.nxt + 2 by omega), (show ¬ b = H.nxt + 3 by omega), if_false]
  · have d : ∀ x, decide (j.pc = x) = decide ((7 : Int) = x) := fun x => by rw [e]
    have eg : (slotBase (j.e % 2) j.slot + 3).toNat = baseD j + 3 := by omega
    have hIg := hI (baseD j + 3)
    by_cases ec : cget w (baseD j + 3) = j.old
    · have dc : decide (w.cells.getD (baseD j + 3) 0 = j.old) = true := decide_eq_true ec
      repeat' (first | simp -implicitDefEqProofs only [go_sem] | (simp -implicitDefEqProofs only [lc, cc, ll, cl, lk, ck, lr, cr, lj, cj, lt, ct, wr_succ, wr_zero, wr_none, set_set, Bool.and_self, d, et, Int.reduceEq, decide_true, decide_false, if_true, if_false, Bool.false_eq_true, dc]) | (refine ACallK.eq (GaugeCell_spec _ _ _ _) ?_; rw [cellC, if_pos (by omega)]) | (refine ixI hu ?_ (by omega) (by omega) (by rfl) (by exact by repeat (first | exact Sub.refl _ | assumption | refine Sub.new hc.1 ?_ _ _ | refine Sub.set hc.1 ?_ (by omega) _ | refine Sub.trans ?_ (by assumption)))) | (refine rdI hu ?_ (by omega) (by rfl) (by exact by repeat (first | exact Sub.refl _ | assumption | refine Sub.new hc.1 ?_ _ _ | refine Sub.set hc.1 ?_ (by omega) _ | refine Sub.trans ?_ (by assumption)))) | (rw [eg]) | (refine ACallK.eq (PackGauge_spec _ _ _ _) ?_) | (refine stI (oc.sub (by exact by repeat (first | exact Sub.refl _ | assumption | refine Sub.new hc.1 ?_ _ _ | refine Sub.set hc.1 ?_ (by omega) _ | refine Sub.trans ?_ (by assumption)))) (by repeat (first | exact hw | refine AH.wf.new ?_ _ _ | refine AH.wf.set ?_ ?_ _ | (simp only [go_sem]; omega))) ?_ (packGauge_I _ _); intro H2 w2 g2 o2) | ((with_reducible refine adraw_plan [(0, []), (1, []), (2, []), (3, []), (4, []), (8, []), (9, []), (5, [0, 1, 8, 9]), (6, []), (7, []), (10, [])] ?_ ?_ ?_); (· kernel_rfl); (· decide +kernel)) | ((with_reducible refine adraw_plan [(0, []), (1, []), (2, []), (3, []), (4, []), (6, []), (7, []), (8, []), (9, []), (10, []), (5, [0, 1, 6, 7, 8, 9, 10]), (11, [0, 1]), (12, []), (13, [])] ?_ ?_ ?_); (· kernel_rfl); (· decide +kernel)))
      have ei := eg
      try rw [ei] at o2
      have ol2 := (ol.sub (by exact by repeat (first | exact Sub.refl _ | assumption | refine Sub.new hc.1 ?_ _ _ | refine Sub.set hc.1 ?_ (by omega) _ | refine Sub.trans ?_ (by assumption)))).chg g2 (fun b hb hm => n3 b hm b (List.mem_append_left _ hb) rfl)
      have k1 := (f15.sub (by exact by repeat (first | exact Sub.refl _ | assumption | refine Sub.new hc.1 ?_ _ _ | refine Sub.set hc.1 ?_ (by omega) _ | refine Sub.trans ?_ (by assumption)))).chg g2 (fun b hb hm => n3 b hm b (List.mem_append_right _ (List.mem_append_left _ hb)) rfl)
      have k2 := (f16.sub (by exact by repeat (first | exact Sub.refl _ | assumption | refine Sub.new hc.1 ?_ _ _ | refine Sub.set hc.1 ?_ (by omega) _ | refine Sub.trans ?_ (by assumption)))).chg g2 (fun b hb hm => n3 b hm b (List.mem_append_right _ (List.mem_append_right _ hb)) rfl)
      have gU : Upd (Sc ++ (Sl ++ (Sk ++ Sr))) H H2 (Sc ++ (Sl ++ (Sk ++ Sr))) := (g2.upd' (fun x hx => List.mem_append_left _ hx) hn).start (by exact by repeat (first | exact Sub.refl _ | assumption | refine Sub.new hc.1 ?_ _ _ | refine Sub.set hc.1 ?_ (by omega) _ | refine Sub.trans ?_ (by assumption)))
      have n2 := g2.1; simp only [go_sem] at n2
      have a0 := (g2.2 H.nxt (fun hm => by have := hnc _ hm; omega)).trans (by simp only [go_sem]; rfl)
      have a1 := (g2.2 (H.nxt + 1) (fun hm => by have := hnc _ hm; omega)).trans (by simp only [go_sem]; rfl)
      have a2 := (g2.2 (H.nxt + 2) (fun hm => by have := hnc _ hm; omega)).trans (by simp only [go_sem]; rfl)
      have a3 := (g2.2 (H.nxt + 3) (fun hm => by have := hnc _ hm; omega)).trans (by simp only [go_sem]; rfl)
      repeat' (first | simp -implicitDefEqProofs only [go_sem] | (simp -implicitDefEqProofs only [a0, a1, a2, a3, lc, cc, ll, cl, lk, ck, lr, cr, lj, cj, lt, ct, wr_succ, wr_zero, wr_none, set_set, Bool.and_self, blk_set_self]) | ((with_reducible refine adraw_plan [(0, []), (1, []), (2, [1]), (3, [])] ?_ ?_ ?_); (· kernel_rfl); (· decide +kernel)))
      rw [show writeD w t j = (cset w (baseD j + 3) (packGauge j.stamp j.op.val), { j with pc := 9 }) by unfold writeD; rw [if_neg (by omega), if_neg (by omega), if_neg (by omega), if_neg (by omega), if_neg (by omega), if_pos e, if_pos ec]]
      refine retK_two (SpR.fin (p := (cset w (baseD j + 3) (packGauge j.stamp j.op.val), { j with pc := 9 })) hw gU ⟨hn, Sc, Sl, Sk ++ Sr, rfl, o2, ol2, vk, vr, Sk, Sr, rfl, rfl, f0, f1, f2, f3, f4, (by simp only [inI64]; omega), f6, f7, f8, f9, f10, f11, f12, f13, f14, k1, k2⟩ (fun b hb => .inl (hnS b hb)) (fun b hb => ?_) (Nat.le_refl _))
      simp only [blk_set, (show ¬ b = H.nxt by omega), (show ¬ b = H.nxt + 1 by omega), (show ¬ b = H.nxt + 2 by omega), (show ¬ b = H.nxt + 3 by omega), if_false]
    · have dc : decide (w.cells.getD (baseD j + 3) 0 = j.old) = false := decide_eq_false ec
      repeat' (first | simp -implicitDefEqProofs only [go_sem] | (simp -implicitDefEqProofs only [lc, cc, ll, cl, lk, ck, lr, cr, lj, cj, lt, ct, wr_succ, wr_zero, wr_none, set_set, Bool.and_self, d, et, Int.reduceEq, decide_true, decide_false, if_true, if_false, Bool.false_eq_true, dc]) | (refine ACallK.eq (GaugeCell_spec _ _ _ _) ?_; rw [cellC, if_pos (by omega)]) | (refine ixI hu ?_ (by omega) (by omega) (by rfl) (by exact by repeat (first | exact Sub.refl _ | assumption | refine Sub.new hc.1 ?_ _ _ | refine Sub.set hc.1 ?_ (by omega) _ | refine Sub.trans ?_ (by assumption)))) | (refine rdI hu ?_ (by omega) (by rfl) (by exact by repeat (first | exact Sub.refl _ | assumption | refine Sub.new hc.1 ?_ _ _ | refine Sub.set hc.1 ?_ (by omega) _ | refine Sub.trans ?_ (by assumption)))) | (rw [eg]) | ((with_reducible refine adraw_plan [(0, []), (1, []), (2, []), (3, []), (4, []), (8, []), (9, []), (5, [0, 1, 8, 9]), (6, []), (7, []), (10, [])] ?_ ?_ ?_); (· kernel_rfl); (· decide +kernel)) | ((with_reducible refine adraw_plan [(0, []), (1, []), (2, [1]), (3, [])] ?_ ?_ ?_); (· kernel_rfl); (· decide +kernel)))
      rw [show writeD w t j = (w, { j with pc := 6 }) by unfold writeD; rw [if_neg (by omega), if_neg (by omega), if_neg (by omega), if_neg (by omega), if_neg (by omega), if_pos e, if_neg ec]]
      refine retK_two (SpR.fin (p := (w, { j with pc := 6 })) hw (Upd.idle (Sub.refl H) hn) ⟨hn, Sc, Sl, Sk ++ Sr, rfl, oc, ol, vk, vr, Sk, Sr, rfl, rfl, f0, f1, f2, f3, f4, (by simp only [inI64]; omega), f6, f7, f8, f9, f10, f11, f12, f13, f14, f15, f16⟩ (fun b hb => .inl (hnS b hb)) (fun b hb => ?_) (Nat.le_add_right _ 4))
      simp only [go_sem, (show ¬ b = H.nxt by omega), (show ¬ b = H.nxt + 1 by omega), (show ¬ b = H.nxt + 2 by omega), (show ¬ b = H.nxt + 3 by omega), if_false]
  · have d : ∀ x, decide (j.pc = x) = decide ((8 : Int) = x) := fun x => by rw [e]
    have hk := hk e
    repeat' (first | simp -implicitDefEqProofs only [go_sem] | (simp -implicitDefEqProofs only [lc, cc, ll, cl, lk, ck, lr, cr, lj, cj, lt, ct, wr_succ, wr_zero, wr_none, set_set, Bool.and_self, d, et, Int.reduceEq, decide_true, decide_false, if_true, if_false, Bool.false_eq_true]) | (refine ACallK.eq (RingCell_spec _ _ _ _ _) ?_; rw [ringC, if_pos (by omega)]) | (refine ixI hu ?_ (by omega) (by omega) (by rfl) (by exact by repeat (first | exact Sub.refl _ | assumption | refine Sub.new hc.1 ?_ _ _ | refine Sub.set hc.1 ?_ (by omega) _ | refine Sub.trans ?_ (by assumption)))) | (simp -implicitDefEqProofs (disch := omega) only [wrap_in]) | (refine stI (oc.sub (by exact by repeat (first | exact Sub.refl _ | assumption | refine Sub.new hc.1 ?_ _ _ | refine Sub.set hc.1 ?_ (by omega) _ | refine Sub.trans ?_ (by assumption)))) (by repeat (first | exact hw | refine AH.wf.new ?_ _ _ | refine AH.wf.set ?_ ?_ _ | (simp only [go_sem]; omega))) ?_ (by simp only [inI64]; omega); intro H2 w2 g2 o2) | ((with_reducible refine adraw_plan [(0, []), (1, []), (2, []), (3, []), (4, []), (5, []), (6, []), (8, []), (9, []), (10, []), (11, []), (7, [0, 1, 8, 9, 10, 11]), (12, []), (13, [])] ?_ ?_ ?_); (· kernel_rfl); (· decide +kernel)))
    have ei : (slotBase (j.e % 2) j.slot + (5 + j.k)).toNat = baseD j + 5 + j.k.toNat := by omega
    try rw [ei] at o2
    have ol2 := (ol.sub (by exact by repeat (first | exact Sub.refl _ | assumption | refine Sub.new hc.1 ?_ _ _ | refine Sub.set hc.1 ?_ (by omega) _ | refine Sub.trans ?_ (by assumption)))).chg g2 (fun b hb hm => n3 b hm b (List.mem_append_left _ hb) rfl)
    have k1 := (f15.sub (by exact by repeat (first | exact Sub.refl _ | assumption | refine Sub.new hc.1 ?_ _ _ | refine Sub.set hc.1 ?_ (by omega) _ | refine Sub.trans ?_ (by assumption)))).chg g2 (fun b hb hm => n3 b hm b (List.mem_append_right _ (List.mem_append_left _ hb)) rfl)
    have k2 := (f16.sub (by exact by repeat (first | exact Sub.refl _ | assumption | refine Sub.new hc.1 ?_ _ _ | refine Sub.set hc.1 ?_ (by omega) _ | refine Sub.trans ?_ (by assumption)))).chg g2 (fun b hb hm => n3 b hm b (List.mem_append_right _ (List.mem_append_right _ hb)) rfl)
    have gU : Upd (Sc ++ (Sl ++ (Sk ++ Sr))) H H2 (Sc ++ (Sl ++ (Sk ++ Sr))) := (g2.upd' (fun x hx => List.mem_append_left _ hx) hn).start (by exact by repeat (first | exact Sub.refl _ | assumption | refine Sub.new hc.1 ?_ _ _ | refine Sub.set hc.1 ?_ (by omega) _ | refine Sub.trans ?_ (by assumption)))
    have n2 := g2.1; simp only [go_sem] at n2
    have a0 := (g2.2 H.nxt (fun hm => by have := hnc _ hm; omega)).trans (by simp only [go_sem]; rfl)
    have a1 := (g2.2 (H.nxt + 1) (fun hm => by have := hnc _ hm; omega)).trans (by simp only [go_sem]; rfl)
    have a2 := (g2.2 (H.nxt + 2) (fun hm => by have := hnc _ hm; omega)).trans (by simp only [go_sem]; rfl)
    have a3 := (g2.2 (H.nxt + 3) (fun hm => by have := hnc _ hm; omega)).trans (by simp only [go_sem]; rfl)
    repeat' (first | simp -implicitDefEqProofs only [go_sem] | (simp -implicitDefEqProofs only [a0, a1, a2, a3, lc, cc, ll, cl, lk, ck, lr, cr, lj, cj, lt, ct, wr_succ, wr_zero, wr_none, set_set, Bool.and_self, blk_set_self]) | simp -implicitDefEqProofs (disch := omega) only [wrap_in, u8_small, Int.tmod_eq_emod_of_nonneg, Int.tdiv_eq_ediv_of_nonneg] | ((with_reducible refine adraw_plan [(0, []), (1, []), (2, [1]), (3, [])] ?_ ?_ ?_); (· kernel_rfl); (· decide +kernel)))
    rw [show writeD w t j = (cset w (baseD j + 5 + j.k.toNat) (j.op.val + 1), { j with pc := 9 }) by unfold writeD; rw [if_neg (by omega), if_neg (by omega), if_neg (by omega), if_neg (by omega), if_neg (by omega), if_neg (by omega), if_pos e]]
    refine retK_two (SpR.fin (p := (cset w (baseD j + 5 + j.k.toNat) (j.op.val + 1), { j with pc := 9 })) hw gU ⟨hn, Sc, Sl, Sk ++ Sr, rfl, o2, ol2, vk, vr, Sk, Sr, rfl, rfl, f0, f1, f2, f3, f4, (by simp only [inI64]; omega), f6, f7, f8, f9, f10, f11, f12, f13, f14, k1, k2⟩ (fun b hb => .inl (hnS b hb)) (fun b hb => ?_) (Nat.le_refl _))
    simp only [blk_set, (show ¬ b = H.nxt by omega), (show ¬ b = H.nxt + 1 by omega), (show ¬ b = H.nxt + 2 by omega), (show ¬ b = H.nxt + 3 by omega), if_false]
  · have d : ∀ x, decide (j.pc = x) = decide ((9 : Int) = x) := fun x => by rw [e]
    repeat' (first | simp -implicitDefEqProofs only [go_sem] | (simp -implicitDefEqProofs only [lc, cc, ll, cl, lk, ck, lr, cr, lj, cj, lt, ct, wr_succ, wr_zero, wr_none, set_set, Bool.and_self, d, et, Int.reduceEq, decide_true, decide_false, if_true, if_false, Bool.false_eq_true]) | (refine ACallK.eq (InCell_spec _ _ _) ?_; rw [if_pos (by omega)]) | ((with_reducible refine adraw_plan [(0, []), (1, []), (2, [0]), (3, []), (4, []), (5, []), (6, []), (7, [6])] ?_ ?_ ?_); (· kernel_rfl); (· decide +kernel)))
    refine ACallK.adds (w' := cadd w (1 + j.e % 2).toNat (-1)) (H0 := H) (l11Add_ok _ vc vj vt vl w (1 + j.e % 2) (-1) Sc _ (oc.sub (by exact by repeat (first | exact Sub.refl _ | assumption | refine Sub.new hc.1 ?_ _ _ | refine Sub.set hc.1 ?_ (by omega) _ | refine Sub.trans ?_ (by assumption)))) n1 ⟨lj, cj⟩ ⟨lt, ct⟩ ⟨ll, cl⟩ hok (by omega) (by omega)) rfl (by exact by repeat (first | exact Sub.refl _ | assumption | refine Sub.new hc.1 ?_ _ _ | refine Sub.set hc.1 ?_ (by omega) _ | refine Sub.trans ?_ (by assumption))) hn (ol.sub (by exact by repeat (first | exact Sub.refl _ | assumption | refine Sub.new hc.1 ?_ _ _ | refine Sub.set hc.1 ?_ (by omega) _ | refine Sub.trans ?_ (by assumption)))) ?_
    intro H1 w1 oc1 ol1 g1 kq m1
    simp only [wcs]
    have ei : (1 + j.e % 2).toNat = inD j := by unfold inD; omega
    rw [ei] at oc1 ol1
    simp only [go_sem] at m1
    have k1 := OwnS.kq (f15.sub (by exact by repeat (first | exact Sub.refl _ | assumption | refine Sub.new hc.1 ?_ _ _ | refine Sub.set hc.1 ?_ (by omega) _ | refine Sub.trans ?_ (by assumption)))) kq (fun b hb hm => n3 b hm b (List.mem_append_right _ (List.mem_append_left _ hb)) rfl)
    have k2 := OwnS.kq (f16.sub (by exact by repeat (first | exact Sub.refl _ | assumption | refine Sub.new hc.1 ?_ _ _ | refine Sub.set hc.1 ?_ (by omega) _ | refine Sub.trans ?_ (by assumption)))) kq (fun b hb hm => n3 b hm b (List.mem_append_right _ (List.mem_append_right _ hb)) rfl)
    have a0 := kq H.nxt _ (fun hm => by have := hnc _ hm; omega) (by simp only [go_sem]; rfl)
    have a1 := kq (H.nxt + 1) _ (fun hm => by have := hnc _ hm; omega) (by simp only [go_sem]; rfl)
    have a2 := kq (H.nxt + 2) _ (fun hm => by have := hnc _ hm; omega) (by simp only [go_sem]; rfl)
    have a3 := kq (H.nxt + 3) _ (fun hm => by have := hnc _ hm; omega) (by simp only [go_sem]; rfl)
    repeat' (first | simp -implicitDefEqProofs only [go_sem] | (simp -implicitDefEqProofs only [a0, a1, a2, a3, refl_set a0, lc, cc, ll, cl, lk, ck, lr, cr, lj, cj, lt, ct, wr_succ, wr_zero, wr_none, set_set, Bool.and_self, blk_set_self]) | ((with_reducible refine adraw_plan [(0, []), (1, []), (2, [1]), (3, [])] ?_ ?_ ?_); (· kernel_rfl); (· decide +kernel)))
    rw [show writeD w t j = (cadd w (inD j) (-1), { j with pc := 11 }) by unfold writeD; rw [if_neg (by omega), if_neg (by omega), if_neg (by omega), if_neg (by omega), if_neg (by omega), if_neg (by omega), if_neg (by omega), if_pos e]]
    refine retK_two (SpR.fin (p := (cadd w (inD j) (-1), { j with pc := 11 })) hw g1 ⟨hn, Sc, Sl, Sk ++ Sr, rfl, oc1, ol1, vk, vr, Sk, Sr, rfl, rfl, f0, f1, f2, f3, f4, (by simp only [inI64]; omega), f6, f7, f8, f9, f10, f11, f12, f13, f14, k1, k2⟩ (fun b hb => .inl (hnS b hb)) (fun b hb => ?_) (Nat.le_refl _))
    simp only [blk_set, (show ¬ b = H.nxt by omega), (show ¬ b = H.nxt + 1 by omega), (show ¬ b = H.nxt + 2 by omega), (show ¬ b = H.nxt + 3 by omega), if_false]
  · have d : ∀ x, decide (j.pc = x) = decide ((10 : Int) = x) := fun x => by rw [e]
    repeat' (first | simp -implicitDefEqProofs only [go_sem] | (simp -implicitDefEqProofs only [lc, cc, ll, cl, lk, ck, lr, cr, lj, cj, lt, ct, wr_succ, wr_zero, wr_none, set_set, Bool.and_self, d, et, Int.reduceEq, decide_true, decide_false, if_true, if_false, Bool.false_eq_true]) | (refine ACallK.eq (InCell_spec _ _ _) ?_; rw [if_pos (by omega)]) | ((with_reducible refine adraw_plan [(0, []), (1, []), (2, [0]), (3, []), (4, []), (5, []), (6, []), (7, [6])] ?_ ?_ ?_); (· kernel_rfl); (· decide +kernel)))
    refine ACallK.adds (w' := cadd w (1 + j.e % 2).toNat (-1)) (H0 := H) (l11Add_ok _ vc vj vt vl w (1 + j.e % 2) (-1) Sc _ (oc.sub (by exact by repeat (first | exact Sub.refl _ | assumption | refine Sub.new hc.1 ?_ _ _ | refine Sub.set hc.1 ?_ (by omega) _ | refine Sub.trans ?_ (by assumption)))) n1 ⟨lj, cj⟩ ⟨lt, ct⟩ ⟨ll, cl⟩ hok (by omega) (by omega)) rfl (by exact by repeat (first | exact Sub.refl _ | assumption | refine Sub.new hc.1 ?_ _ _ | refine Sub.set hc.1 ?_ (by omega) _ | refine Sub.trans ?_ (by assumption))) hn (ol.sub (by exact by repeat (first | exact Sub.refl _ | assumption | refine Sub.new hc.1 ?_ _ _ | refine Sub.set hc.1 ?_ (by omega) _ | refine Sub.trans ?_ (by assumption)))) ?_
    intro H1 w1 oc1 ol1 g1 kq m1
    simp only [wcs]
    have ei : (1 + j.e % 2).toNat = inD j := by unfold inD; omega
    rw [ei] at oc1 ol1
    simp only [go_sem] at m1
    have k1 := OwnS.kq (f15.sub (by exact by repeat (first | exact Sub.refl _ | assumption | refine Sub.new hc.1 ?_ _ _ | refine Sub.set hc.1 ?_ (by omega) _ | refine Sub.trans ?_ (by assumption)))) kq (fun b hb hm => n3 b hm b (List.mem_append_right _ (List.mem_append_left _ hb)) rfl)
    have k2 := OwnS.kq (f16.sub (by exact by repeat (first | exact Sub.refl _ | assumption | refine Sub.new hc.1 ?_ _ _ | refine Sub.set hc.1 ?_ (by omega) _ | refine Sub.trans ?_ (by assumption)))) kq (fun b hb hm => n3 b hm b (List.mem_append_right _ (List.mem_append_right _ hb)) rfl)
    have a0 := kq H.nxt _ (fun hm => by have := hnc _ hm; omega) (by simp only [go_sem]; rfl)
    have a1 := kq (H.nxt + 1) _ (fun hm => by have := hnc _ hm; omega) (by simp only [go_sem]; rfl)
    have a2 := kq (H.nxt + 2) _ (fun hm => by have := hnc _ hm; omega) (by simp only [go_sem]; rfl)
    have a3 := kq (H.nxt + 3) _ (fun hm => by have := hnc _ hm; omega) (by simp only [go_sem]; rfl)
    repeat' (first | simp -implicitDefEqProofs only [go_sem] | (simp -implicitDefEqProofs only [a0, a1, a2, a3, refl_set a0, lc, cc, ll, cl, lk, ck, lr, cr, lj, cj, lt, ct, wr_succ, wr_zero, wr_none, set_set, Bool.and_self, blk_set_self]) | ((with_reducible refine adraw_plan [(0, []), (1, []), (2, [1]), (3, [])] ?_ ?_ ?_); (· kernel_rfl); (· decide +kernel)))
    rw [show writeD w t j = (cadd w (inD j) (-1), { j with flips := IntKind.i64.wrap (j.flips + 1), pc := 2 }) by unfold writeD; rw [if_neg (by omega), if_neg (by omega), if_neg (by omega), if_neg (by omega), if_neg (by omega), if_neg (by omega), if_neg (by omega), if_neg (by omega)]]
    refine retK_two (SpR.fin (p := (cadd w (inD j) (-1), { j with flips := IntKind.i64.wrap (j.flips + 1), pc := 2 })) hw g1 ⟨hn, Sc, Sl, Sk ++ Sr, rfl, oc1, ol1, vk, vr, Sk, Sr, rfl, rfl, f0, f1, f2, f3, f4, (by simp only [inI64]; omega), f6, f7, f8, f9, f10, f11, (wrap_I _), f13, f14, k1, k2⟩ (fun b hb => .inl (hnS b hb)) (fun b hb => ?_) (Nat.le_refl _))
    simp only [blk_set, (show ¬ b = H.nxt by omega), (show ¬ b = H.nxt + 1 by omega), (show ¬ b = H.nxt + 2 by omega), (show ¬ b = H.nxt + 3 by omega), if_false]
end Go.Proofs.YtipfnhfcoolhaaaGreat.Aw
