/- Parts of a proof: Fwf. -/
import Derived.Test.YtipfnhfcoolhaaaGreatK15
set_option linter.unusedVariables false
set_option linter.unusedSimpArgs false
namespace Go.Proofs.YtipfnhfcoolhaaaGreat.Aw
open Go Go.RowKit
set_option maxRecDepth 100000
set_option maxHeartbeats 2000000
attribute [-go_sem] wr_eq
theorem Upd.anew {A B C D T : List Nat} {H H1 : AH} (hw : H.wf) (hn : (A ++ (B ++ (C ++ D))).Nodup) (hi : ∀ b ∈ A ++ (B ++ (C ++ D)), b < H.nxt) (hs : Sub H H1) (hT : T.Nodup ∧ ∀ b ∈ T, H.nxt ≤ b) : Upd (A ++ (B ++ (C ++ D))) H H1 (A ++ (B ++ (T ++ D))) ∧ Upd (A ++ (B ++ (C ++ D))) H H1 (A ++ (B ++ (C ++ T))) := by
  have h1 : Upd (A ++ (B ++ (C ++ D))) H H1 (A ++ (B ++ (C ++ D))) := Upd.idle hs hn
  obtain ⟨n1, n2, n3⟩ := List.nodup_append.1 hn
  obtain ⟨n4, n5, n6⟩ := List.nodup_append.1 n2
  obtain ⟨n7, n8, n9⟩ := List.nodup_append.1 n5
  have hA : ∀ b ∈ A, b < H.nxt := fun b hb => hi b (List.mem_append_left _ hb)
  have hB : ∀ b ∈ B, b < H.nxt := fun b hb => hi b (List.mem_append_right _ (List.mem_append_left _ hb))
  have hC : ∀ b ∈ C, b < H.nxt := fun b hb => hi b (List.mem_append_right _ (List.mem_append_right _ (List.mem_append_left _ hb)))
  have hD : ∀ b ∈ D, b < H.nxt := fun b hb => hi b (List.mem_append_right _ (List.mem_append_right _ (List.mem_append_right _ hb)))
  refine ⟨⟨h1.1, h1.2.1, fun b hb => ?_, ?_⟩, ⟨h1.1, h1.2.1, fun b hb => ?_, ?_⟩⟩
  · simp only [List.mem_append] at hb ⊢
    rcases hb with hb | hb | hb | hb
    · exact .inl (.inl hb)
    · exact .inl (.inr (.inl hb))
    · exact .inr (hT.2 b hb)
    · exact .inl (.inr (.inr (.inr hb)))
  · refine List.nodup_append.2 ⟨n1, List.nodup_append.2 ⟨n4, List.nodup_append.2 ⟨hT.1, n8, fun a ha b hb => ?_⟩, fun a ha b hb => ?_⟩, fun a ha b hb => ?_⟩
    · have := hT.2 a ha; have := hD b hb; omega
    · rcases List.mem_append.1 hb with hb | hb
      · have := hT.2 b hb; have := hB a ha; omega
      · exact n6 a ha b (List.mem_append_right _ hb)
    · simp only [List.mem_append] at hb
      rcases hb with hb | hb | hb
      · exact n3 a ha b (List.mem_append_left _ hb)
      · have := hT.2 b hb; have := hA a ha; omega
      · exact n3 a ha b (List.mem_append_right _ (List.mem_append_right _ hb))
  · simp only [List.mem_append] at hb ⊢
    rcases hb with hb | hb | hb | hb
    · exact .inl (.inl hb)
    · exact .inl (.inr (.inl hb))
    · exact .inl (.inr (.inr (.inl hb)))
    · exact .inr (hT.2 b hb)
  · refine List.nodup_append.2 ⟨n1, List.nodup_append.2 ⟨n4, List.nodup_append.2 ⟨n7, hT.1, fun a ha b hb => ?_⟩, fun a ha b hb => ?_⟩, fun a ha b hb => ?_⟩
    · have := hT.2 b hb; have := hC a ha; omega
    · rcases List.mem_append.1 hb with hb | hb
      · exact n6 a ha b (List.mem_append_left _ hb)
      · have := hT.2 b hb; have := hB a ha; omega
    · simp only [List.mem_append] at hb
      rcases hb with hb | hb | hb
      · exact n3 a ha b (List.mem_append_left _ hb)
      · exact n3 a ha b (List.mem_append_right _ (List.mem_append_left _ hb))
      · have := hT.2 b hb; have := hA a ha; omega
theorem l11Flush_ok (W0 : World) (vc vj vt vl : AV) (cj : List AV) (w : WorldD) (t : Nat) (j : JobD) (S : List Nat) (H : AH) (hp : SpP H S w j t vc vj vt vl cj) (hok : cellsOk w.cells = true) (he : 0 ≤ j.e ∧ j.e ≤ 281474976710655) (hpc : 12 ≤ j.pc ∧ j.pc ≤ 15) (hk4 : j.pc = 14 → 0 ≤ j.k ∧ j.k ≤ 3) (hk5 : j.pc = 15 → 0 ≤ j.k ∧ j.k ≤ 31) (hkl : j.keys.length ≤ 100) (hrl : j.raw.length ≤ 100) :
    ACalls Tryz.prog W0 149 [.agg (wcs vc vj vt vl w), .v (.int .i64 t), .agg cj] H (SpR H S vj vt (flushD w t j)) := by
  refine acallw Tryz.func149 rfl (by kernel_rfl) (by kernel_rfl) fun hc hw => ?_
  have hp0 := hp
  have hll := hp.ll
  obtain ⟨hs, hl, hj, ht, hnw, htt⟩ := hp
  have hs0 := hs
  obtain ⟨hn, Sc, Sl, Sj, rfl, oc, ol, oj⟩ := hs
  obtain ⟨vk, vr, Sk, Sr, rfl, rfl, f0, f1, f2, f3, f4, f5, f6, f7, f8, f9, f10, f11, f12, f13, f14, f15, f16⟩ := oj
  have lc := oc.leaf; have cc := oc.one
  have ll := ol.leaf; have cl := ol.one
  have lk := f15.leaf; have ck := f15.one
  have lr := f16.leaf; have cr := f16.one
  have hnS : ∀ b ∈ Sc ++ (Sl ++ (Sk ++ Sr)), b < H.nxt := fun b hb => hw.lt' (hs0.isin b hb)
  obtain ⟨lj, cj⟩ := hj
  obtain ⟨lt, ct⟩ := ht
  simp only [wcs]
  have hlen := cellsOk_len hok
  have hu := oc.slr (W0 := W0)
  have et : j.e.tmod 2 = j.e % 2 := Int.tmod_eq_emod_of_nonneg he.1
  obtain ⟨n1, n1', n3⟩ := List.nodup_append.1 hn
  have hnc : ∀ b ∈ Sc, b < H.nxt := fun b hb => hnS b (List.mem_append_left _ hb)
  have hcg : ∀ i, 0 ≤ cget w i ∧ cget w i ≤ 281474976710655 := fun i => cellsOk_get hok i
  have hI := getD_I hu
  rcases (by omega : j.pc = 12 ∨ j.pc = 13 ∨ j.pc = 14 ∨ j.pc = 15) with e | e | e | e
  · have d : ∀ x, decide (j.pc = x) = decide ((12 : Int) = x) := fun x => by rw [e]
    have hI0 := hI 0
    repeat' (first | simp -implicitDefEqProofs only [go_sem] | (simp -implicitDefEqProofs only [lc, cc, ll, cl, lk, ck, lr, cr, lj, cj, lt, ct, wr_succ, wr_zero, wr_none, set_set, Bool.and_self, d, et, Int.reduceEq, decide_true, decide_false, if_true, if_false, Bool.false_eq_true]))
    refine ACallK.adds (w' := cadd w (0 : Int).toNat 1) (H0 := H) (l11Add_ok _ vc vj vt vl w 0 1 Sc _ (oc.sub (by exact by repeat (first | exact Sub.refl _ | assumption | refine Sub.new hc.1 ?_ _ _ | refine Sub.set hc.1 ?_ (by omega) _ | refine Sub.trans ?_ (by assumption)))) n1 ⟨lj, cj⟩ ⟨lt, ct⟩ ⟨ll, cl⟩ hok (by omega) (by omega)) rfl (by exact by repeat (first | exact Sub.refl _ | assumption | refine Sub.new hc.1 ?_ _ _ | refine Sub.set hc.1 ?_ (by omega) _ | refine Sub.trans ?_ (by assumption))) hn (ol.sub (by exact by repeat (first | exact Sub.refl _ | assumption | refine Sub.new hc.1 ?_ _ _ | refine Sub.set hc.1 ?_ (by omega) _ | refine Sub.trans ?_ (by assumption)))) ?_
    intro H1 w1 oc1 ol1 g1 kq m1
    simp only [wcs]
    simp only [go_sem] at m1
    rw [show (0 : Int).toNat = 0 from rfl] at oc1 ol1
    have k1 := OwnS.kq (f15.sub (by exact by repeat (first | exact Sub.refl _ | assumption | refine Sub.new hc.1 ?_ _ _ | refine Sub.set hc.1 ?_ (by omega) _ | refine Sub.trans ?_ (by assumption)))) kq (fun b hb hm => n3 b hm b (List.mem_append_right _ (List.mem_append_left _ hb)) rfl)
    have k2 := OwnS.kq (f16.sub (by exact by repeat (first | exact Sub.refl _ | assumption | refine Sub.new hc.1 ?_ _ _ | refine Sub.set hc.1 ?_ (by omega) _ | refine Sub.trans ?_ (by assumption)))) kq (fun b hb hm => n3 b hm b (List.mem_append_right _ (List.mem_append_right _ hb)) rfl)
    have a0 := kq H.nxt _ (fun hm => by have := hnc _ hm; omega) (by simp only [go_sem]; rfl)
    have a1 := kq (H.nxt + 1) _ (fun hm => by have := hnc _ hm; omega) (by simp only [go_sem]; rfl)
    have a2 := kq (H.nxt + 2) _ (fun hm => by have := hnc _ hm; omega) (by simp only [go_sem]; rfl)
    have a3 := kq (H.nxt + 3) _ (fun hm => by have := hnc _ hm; omega) (by simp only [go_sem]; rfl)
    rw [show cget w (0 : Int).toNat = cget w 0 from rfl]
    repeat' (first | simp -implicitDefEqProofs only [go_sem] | (simp -implicitDefEqProofs only [a0, a1, refl_set a0, lc, cc, ll, cl, lk, ck, lr, cr, lj, cj, lt, ct, wr_succ, wr_zero, wr_none, set_set, Bool.and_self]))
    have hsA : Sps H1 (Sc ++ (Sl ++ (Sk ++ Sr))) (cadd w 0 1) { j with e := cget w 0 } vc vl _ := ⟨hn, Sc, Sl, Sk ++ Sr, rfl, oc1, ol1, vk, vr, Sk, Sr, rfl, rfl, f0, f1, f2, f3, f4, f5, f6, f7, f8, hI0, f10, f11, f12, f13, f14, k1, k2⟩
    refine ACallK.spr (l11Point_ok _ vc vj vt vl _ (cadd w 0 1) t { j with e := cget w 0 } 0 (cget w 0) _ _ (hsA.eq (fun b hb => by have := hnS b hb; simp only [blk_set]; rw [if_neg (by omega)])) hll ⟨lj, cj⟩ ⟨lt, ct⟩ ⟨by simp only [inI64]; omega, hI0, hnw, by simp only [inI64]; omega⟩) (H0 := H1.set (H.nxt + 1) _) ?_ (Sub.refl _) (fun b hb => by have := hnS b hb; have := g1.1; simp only [go_sem]; omega) ?_
    · exact w1.set (by omega) _
    intro vc2 vl2 cj2 H2 S2 w2 hs2 g2 kq m2 hS2
    have hs20 := hs2
    obtain ⟨hn2, Sc2, Sl2, Sj2, rfl, oc2, ol2, oj2⟩ := hs2
    obtain ⟨vk2, vr2, Sk2, Sr2, rfl, rfl, f_20, f_21, f_22, f_23, f_24, f_25, f_26, f_27, f_28, f_29, f_210, f_211, f_212, f_213, f_214, f_215, f_216⟩ := oj2
    have lc2 := oc2.leaf; have cc2 := oc2.one
    have ll2 := ol2.leaf; have cl2 := ol2.one
    have lk2 := f_215.leaf; have ck2 := f_215.one
    have lr2 := f_216.leaf; have cr2 := f_216.one
    simp only [wcs]
    have c0 := kq H.nxt _ (fun hm => by have := hnS _ hm; omega) ((blk_set_ne _ (by omega) _).trans a0)
    have c1 := kq (H.nxt + 1) _ (fun hm => by have := hnS _ hm; omega) (blk_set_self _ _ _)
    have c2 := kq (H.nxt + 2) _ (fun hm => by have := hnS _ hm; omega) ((blk_set_ne _ (by omega) _).trans a2)
    have c3 := kq (H.nxt + 3) _ (fun hm => by have := hnS _ hm; omega) ((blk_set_ne _ (by omega) _).trans a3)
    repeat' (first | simp -implicitDefEqProofs only [go_sem] | (simp -implicitDefEqProofs only [c0, c1, c2, c3, lc2, cc2, ll2, cl2, lk2, ck2, lr2, cr2, lj, cj, lt, ct, wr_succ, wr_zero, wr_none, set_set, blk_set_self, Bool.and_self]) | ((with_reducible refine adraw_plan [(0, []), (1, []), (2, [1]), (3, [])] ?_ ?_ ?_); (· kernel_rfl); (· decide +kernel)))
    have g4 := (g1.setNew hw (b := H.nxt + 1) (by omega) _).trans hw g2
    rw [show flushD w t j = ((pointD (cadd w 0 1) t { j with e := cget w 0 } 0 (cget w 0)).1, { j with e := cget w 0, code := 0, pc := 13 }) by unfold flushD; rw [if_pos e]; rfl]
    refine retK_two (SpR.fin (p := ((pointD (cadd w 0 1) t { j with e := cget w 0 } 0 (cget w 0)).1, { j with e := cget w 0, code := 0, pc := 13 })) hw g4 ⟨hn2, Sc2, Sl2, Sk2 ++ Sr2, rfl, oc2, ol2, vk2, vr2, Sk2, Sr2, rfl, rfl, f_20, f_21, f_22, f_23, f_24, (by simp only [inI64]; omega), f_26, f_27, f_28, f_29, f_210, f_211, f_212, f_213, f_214, f_215, f_216⟩ (fun b hb => ?_) (fun b hb => ?_) (Nat.le_refl _))
    · rcases g2.2.2.1 b hb with h | h
      · exact .inl (hnS b h)
      · simp only [go_sem] at h; omega
    · simp only [blk_set, (show ¬ b = H.nxt by omega), (show ¬ b = H.nxt + 1 by omega), (show ¬ b = H.nxt + 2 by omega), (show ¬ b = H.nxt + 3 by omega), if_false]
  · have d : ∀ x, decide (j.pc = x) = decide ((13 : Int) = x) := fun x => by rw [e]
    by_cases ec : cget w (inD j) = 0
    · have dc : decide (w.cells.getD (1 + j.e % 2).toNat 0 = 0) = true := decide_eq_true (by rw [show (1 + j.e % 2).toNat = inD j by unfold inD; omega]; exact ec)
      repeat' (first | simp -implicitDefEqProofs only [go_sem] | (simp -implicitDefEqProofs only [lc, cc, ll, cl, lk, ck, lr, cr, lj, cj, lt, ct, wr_succ, wr_zero, wr_none, set_set, Bool.and_self, d, dc, et, Int.reduceEq, decide_true, decide_false, if_true, if_false, Bool.false_eq_true]) | (refine ACallK.eq (InCell_spec _ _ _) ?_; rw [if_pos (by omega)]) | (refine ixI hu ?_) | (refine rdI hu ?_) | ((with_reducible refine adraw_plan [(0, []), (1, []), (2, []), (3, []), (4, []), (5, [0, 1]), (6, []), (7, []), (8, [])] ?_ ?_ ?_); (· kernel_rfl); (· decide +kernel)) | ((with_reducible refine adraw_plan [(0, []), (1, []), (2, [1]), (3, [])] ?_ ?_ ?_); (· kernel_rfl); (· decide +kernel)))
      rw [show flushD w t j = (w, { j with k := 0, pc := 14 }) by unfold flushD; rw [if_neg (by omega), if_pos e, if_pos ec]]
      refine retK_two (SpR.fin (p := (w, { j with k := 0, pc := 14 })) hw (Upd.idle (Sub.refl H) hn) ⟨hn, Sc, Sl, Sk ++ Sr, rfl, oc, ol, vk, vr, Sk, Sr, rfl, rfl, f0, f1, f2, f3, f4, (by simp only [inI64]; omega), (by simp only [inI64]; omega), f7, f8, f9, f10, f11, f12, f13, f14, f15, f16⟩ (fun b hb => .inl (hnS b hb)) (fun b hb => ?_) (Nat.le_add_right _ 4))
      simp only [go_sem, (show ¬ b = H.nxt by omega), (show ¬ b = H.nxt + 1 by omega), (show ¬ b = H.nxt + 2 by omega), (show ¬ b = H.nxt + 3 by omega), if_false]
    · have dc : decide (w.cells.getD (1 + j.e % 2).toNat 0 = 0) = false := decide_eq_false (by rw [show (1 + j.e % 2).toNat = inD j by unfold inD; omega]; exact ec)
      repeat' (first | simp -implicitDefEqProofs only [go_sem] | (simp -implicitDefEqProofs only [lc, cc, ll, cl, lk, ck, lr, cr, lj, cj, lt, ct, wr_succ, wr_zero, wr_none, set_set, Bool.and_self, d, dc, et, Int.reduceEq, decide_true, decide_false, if_true, if_false, Bool.false_eq_true]) | (refine ACallK.eq (InCell_spec _ _ _) ?_; rw [if_pos (by omega)]) | (refine ixI hu ?_) | (refine rdI hu ?_) | ((with_reducible refine adraw_plan [(0, []), (1, []), (2, []), (3, []), (4, []), (5, [0, 1]), (6, []), (7, []), (8, [])] ?_ ?_ ?_); (· kernel_rfl); (· decide +kernel)) | ((with_reducible refine adraw_plan [(0, []), (1, []), (2, [1]), (3, [])] ?_ ?_ ?_); (· kernel_rfl); (· decide +kernel)))
      rw [show flushD w t j = (w, j) by unfold flushD; rw [if_neg (by omega), if_pos e, if_neg ec]]
      refine retK_two (SpR.fin (p := (w, j)) hw (Upd.idle (Sub.refl H) hn) ⟨hn, Sc, Sl, Sk ++ Sr, rfl, oc, ol, vk, vr, Sk, Sr, rfl, rfl, f0, f1, f2, f3, f4, f5, f6, f7, f8, f9, f10, f11, f12, f13, f14, f15, f16⟩ (fun b hb => .inl (hnS b hb)) (fun b hb => ?_) (Nat.le_add_right _ 4))
      simp only [go_sem, (show ¬ b = H.nxt by omega), (show ¬ b = H.nxt + 1 by omega), (show ¬ b = H.nxt + 2 by omega), (show ¬ b = H.nxt + 3 by omega), if_false]
  · have d : ∀ x, decide (j.pc = x) = decide ((14 : Int) = x) := fun x => by rw [e]
    have hk := hk4 e
    have hIk := hI (3 + j.k).toNat
    repeat' (first | simp -implicitDefEqProofs only [go_sem] | (simp -implicitDefEqProofs only [lc, cc, ll, cl, lk, ck, lr, cr, lj, cj, lt, ct, wr_succ, wr_zero, wr_none, set_set, Bool.and_self, d, et, Int.reduceEq, decide_true, decide_false, if_true, if_false, Bool.false_eq_true]) | ((with_reducible refine adraw_plan [(0, []), (1, []), (3, []), (4, []), (5, []), (6, []), (2, [3, 4, 5, 6]), (7, [3, 4]), (8, []), (9, []), (10, []), (11, []), (12, []), (13, [])] ?_ ?_ ?_); (· kernel_rfl); (· decide +kernel)))
    refine ACallK.of (l2Copy_ok _ vk j.keys _ (f15.slr.sub (by exact by repeat (first | exact Sub.refl _ | assumption | refine Sub.new hc.1 ?_ _ _ | refine Sub.set hc.1 ?_ (by omega) _ | refine Sub.trans ?_ (by assumption)))) (by omega)).cl ?_
    rintro u H1 ⟨⟨s1, S1, o1, F1⟩, k1⟩
    have n1' := s1.1; simp only [go_sem] at n1'
    have z1 : Sub H H1 := Sub.trans (by exact by repeat (first | exact Sub.refl _ | assumption | refine Sub.new hc.1 ?_ _ _ | refine Sub.set hc.1 ?_ (by omega) _ | refine Sub.trans ?_ (by assumption))) s1
    have a0 := s1.2 H.nxt _ (by simp only [go_sem]; rfl)
    have a1 := s1.2 (H.nxt + 1) _ (by simp only [go_sem]; rfl)
    have a2 := s1.2 (H.nxt + 2) _ (by simp only [go_sem]; rfl)
    have a3 := s1.2 (H.nxt + 3) _ (by simp only [go_sem]; rfl)
    have e0 : ¬ H.nxt = H1.nxt := by omega
    have e1 : ¬ H.nxt + 1 = H1.nxt := by omega
    have e2 : ¬ H.nxt + 2 = H1.nxt := by omega
    have e3 : ¬ H.nxt + 3 = H1.nxt := by omega
    repeat' (first | simp -implicitDefEqProofs only [go_sem] | (simp -implicitDefEqProofs only [a0, a1, a2, a3, e0, e1, e2, e3, lc, cc, ll, cl, lk, ck, lr, cr, lj, cj, lt, ct, wr_succ, wr_zero, wr_none, set_set, Bool.and_self, if_false]) | (refine ACallK.eq (KeyCell_spec _ _ _) ?_; rw [keyCell_in hk]) | (refine ixI hu ?_) | (refine rdI hu ?_))
    have ei : (3 + j.k).toNat = 3 + j.k.toNat := by omega
    refine app_one (x := w.cells.getD (3 + j.k).toNat 0) (S := S1) (S2 := []) (o1.sub ((Sub.refl _).new k1.1 _ _)) ⟨rfl, rfl, hIk⟩ (by simpa using F1.1) (k1.1.new _ _) (blk_new_self _ _ _) (fun hm => absurd (k1.1.lt' (o1.isin _ hm)) (Nat.lt_irrefl _)) ?_
    intro H2 T u2 w2 o2 g2 m2
    rw [List.append_nil] at g2
    have hS1 : ∀ b ∈ S1, H.nxt + 4 ≤ b := fun b hb => by have := F1.2 b hb; simpa only [go_sem] using this
    have z2 := g2.sub hw (z1.trans ((Sub.refl _).new k1.1 _ _)) (fun b hb => by have := hS1 b hb; omega)
    have hT4 : ∀ b ∈ T, H.nxt + 4 ≤ b := fun b hb => by
      rcases g2.2.2.1 b hb with h | h
      · exact hS1 b h
      · simp only [go_sem] at h; omega
    have hA := Upd.anew hw hn hnS z2.1 ⟨g2.2.2.2, z2.2⟩
    have c0 := g2.2.1 H.nxt _ (fun hm => by have := hS1 _ hm; omega) (by simp only [go_sem, e0, if_false]; exact a0)
    have c1 := g2.2.1 (H.nxt + 1) _ (fun hm => by have := hS1 _ hm; omega) (by simp only [go_sem, e1, if_false]; exact a1)
    have c2 := g2.2.1 (H.nxt + 2) _ (fun hm => by have := hS1 _ hm; omega) (by simp only [go_sem, e2, if_false]; exact a2)
    have c3 := g2.2.1 (H.nxt + 3) _ (fun hm => by have := hS1 _ hm; omega) (by simp only [go_sem, e3, if_false]; exact a3)
    have l2 := o2.leaf; have l2c := o2.one
    have n2 := z2.1.1
    by_cases ek : j.k = 3
    · have dk : decide (j.k + 1 = 4) = true := decide_eq_true (by omega)
      repeat' (first | simp -implicitDefEqProofs only [go_sem] | (simp -implicitDefEqProofs (disch := omega) only [wrap_in]) | (simp -implicitDefEqProofs only [c0, c1, c2, c3, l2, l2c, dk, lc, cc, ll, cl, lk, ck, lr, cr, lj, cj, lt, ct, wr_succ, wr_zero, wr_none, set_set, Bool.and_self, blk_set_self, decide_true, decide_false, if_true, if_false, Bool.false_eq_true]) | ((with_reducible refine adraw_plan [(0, []), (1, []), (2, [1]), (3, [])] ?_ ?_ ?_); (· kernel_rfl); (· decide +kernel)))
      rw [show flushD w t j = (w, { j with keys := j.keys ++ [cget w (3 + j.k.toNat)], k := 0, pc := 15 }) by unfold flushD; rw [if_neg (by omega), if_neg (by omega), if_pos e, if_pos ek]]
      refine retK_two (SpR.fin (p := (w, { j with keys := j.keys ++ [cget w (3 + j.k.toNat)], k := 0, pc := 15 })) hw hA.1 ⟨hA.1.2.2.2, Sc, Sl, T ++ Sr, rfl, oc.sub z2.1, ol.sub z2.1, u2, vr, T, Sr, rfl, rfl, f0, f1, f2, f3, f4, (by simp only [inI64]; omega), (by simp only [inI64]; omega), f7, f8, f9, f10, f11, f12, f13, f14, by rw [ei] at o2; exact o2, f16.sub z2.1⟩ (fun b hb => by
        simp only [List.mem_append] at hb
        rcases hb with hb | hb | hb | hb
        · exact .inl (hnS b (List.mem_append_left _ hb))
        · exact .inl (hnS b (List.mem_append_right _ (List.mem_append_left _ hb)))
        · exact .inr (hT4 b hb)
        · exact .inl (hnS b (List.mem_append_right _ (List.mem_append_right _ (List.mem_append_right _ hb))))) (fun b hb => ?_) (Nat.le_refl _))
      simp only [blk_set, (show ¬ b = H.nxt by omega), (show ¬ b = H.nxt + 1 by omega), (show ¬ b = H.nxt + 2 by omega), (show ¬ b = H.nxt + 3 by omega), if_false]
    · have dk : decide (j.k + 1 = 4) = false := decide_eq_false (by omega)
      repeat' (first | simp -implicitDefEqProofs only [go_sem] | (simp -implicitDefEqProofs (disch := omega) only [wrap_in]) | (simp -implicitDefEqProofs only [c0, c1, c2, c3, l2, l2c, dk, lc, cc, ll, cl, lk, ck, lr, cr, lj, cj, lt, ct, wr_succ, wr_zero, wr_none, set_set, Bool.and_self, blk_set_self, decide_true, decide_false, if_true, if_false, Bool.false_eq_true]) | ((with_reducible refine adraw_plan [(0, []), (1, []), (2, [1]), (3, [])] ?_ ?_ ?_); (· kernel_rfl); (· decide +kernel)))
      rw [show flushD w t j = (w, { j with keys := j.keys ++ [cget w (3 + j.k.toNat)], k := j.k + 1 }) by unfold flushD; rw [if_neg (by omega), if_neg (by omega), if_pos e, if_neg ek]]
      refine retK_two (SpR.fin (p := (w, { j with keys := j.keys ++ [cget w (3 + j.k.toNat)], k := j.k + 1 })) hw hA.1 ⟨hA.1.2.2.2, Sc, Sl, T ++ Sr, rfl, oc.sub z2.1, ol.sub z2.1, u2, vr, T, Sr, rfl, rfl, f0, f1, f2, f3, f4, f5, (by simp only [inI64]; omega), f7, f8, f9, f10, f11, f12, f13, f14, by rw [ei] at o2; exact o2, f16.sub z2.1⟩ (fun b hb => by
        simp only [List.mem_append] at hb
        rcases hb with hb | hb | hb | hb
        · exact .inl (hnS b (List.mem_append_left _ hb))
        · exact .inl (hnS b (List.mem_append_right _ (List.mem_append_left _ hb)))
        · exact .inr (hT4 b hb)
        · exact .inl (hnS b (List.mem_append_right _ (List.mem_append_right _ (List.mem_append_right _ hb))))) (fun b hb => ?_) (Nat.le_refl _))
      simp only [blk_set, (show ¬ b = H.nxt by omega), (show ¬ b = H.nxt + 1 by omega), (show ¬ b = H.nxt + 2 by omega), (show ¬ b = H.nxt + 3 by omega), if_false]
  · have d : ∀ x, decide (j.pc = x) = decide ((15 : Int) = x) := fun x => by rw [e]
    have hk := hk5 e
    have ed : (7 + j.e % 2 * 32 + j.k).toNat = drainC j := by unfold drainC; omega
    have hId := hI (drainC j)
    repeat' (first | simp -implicitDefEqProofs only [go_sem] | (simp -implicitDefEqProofs only [lc, cc, ll, cl, lk, ck, lr, cr, lj, cj, lt, ct, wr_succ, wr_zero, wr_none, set_set, Bool.and_self, d, et, Int.reduceEq, decide_true, decide_false, if_true, if_false, Bool.false_eq_true]) | (simp -implicitDefEqProofs (disch := omega) only [wrap_in]) | (refine ixI hu ?_) | (refine rdI hu ?_) | (rw [ed]) | ((with_reducible refine adraw_tree (.node [0, 1, 3, 4, 5, 6, 7] [(2, [3, 4, 5, 6, 7], (.node [] [(8, [0, 1], (.node [] [(9, [], (.node [10] [(11, [], (.node [] []))]))]))])), (8, [0, 1], (.node [] [(2, [3, 4, 5, 6, 7], (.node [] [(9, [], (.node [10] [(11, [], (.node [] []))]))]))]))]) ?_ ?_ ?_); (· kernel_rfl); (· decide +kernel)) | (with_reducible refine And.intro ?_ ?_))
    · refine ACallK.of (l2Copy_ok _ vr j.raw _ (f16.slr.sub (by exact by repeat (first | exact Sub.refl _ | assumption | refine Sub.new hc.1 ?_ _ _ | refine Sub.set hc.1 ?_ (by omega) _ | refine Sub.trans ?_ (by assumption)))) (by omega)).cl ?_
      rintro u H1 ⟨⟨s1, S1, o1, F1⟩, k1⟩
      have n1' := s1.1; simp only [go_sem] at n1'
      have z1 : Sub H H1 := Sub.trans (by exact by repeat (first | exact Sub.refl _ | assumption | refine Sub.new hc.1 ?_ _ _ | refine Sub.set hc.1 ?_ (by omega) _ | refine Sub.trans ?_ (by assumption))) s1
      have a0 := s1.2 H.nxt _ (by simp only [go_sem]; rfl)
      have a1 := s1.2 (H.nxt + 1) _ (by simp only [go_sem]; rfl)
      have a2 := s1.2 (H.nxt + 2) _ (by simp only [go_sem]; rfl)
      have a3 := s1.2 (H.nxt + 3) _ (by simp only [go_sem]; rfl)
      have hS1 : ∀ b ∈ S1, H.nxt + 4 ≤ b ∧ b < H1.nxt := fun b hb => by have := F1.2 b hb; simp only [go_sem] at this; have := k1.1.lt' (o1.isin b hb); omega
      have e0 : ¬ H.nxt = H1.nxt := by omega
      have e1 : ¬ H.nxt + 1 = H1.nxt := by omega
      have e2 : ¬ H.nxt + 2 = H1.nxt := by omega
      have e3 : ¬ H.nxt + 3 = H1.nxt := by omega
      repeat' (first | simp -implicitDefEqProofs only [go_sem] | (simp -implicitDefEqProofs only [a0, a1, a2, a3, e0, e1, e2, e3, lc, cc, ll, cl, lk, ck, lr, cr, lj, cj, lt, ct, wr_succ, wr_zero, wr_none, set_set, Bool.and_self, if_false]) | (refine ixI hu ?_) | (refine rdI hu ?_) | (rw [ed]) | (with_reducible refine And.intro ?_ ?_))
      refine app_one (x := w.cells.getD (drainC j) 0) (S := S1) (S2 := []) (o1.sub ((Sub.refl _).new k1.1 _ _)) ⟨rfl, rfl, hId⟩ (by simpa using F1.1) (k1.1.new _ _) (blk_new_self _ _ _) (fun hm => absurd (hS1 _ hm).2 (Nat.lt_irrefl _)) ?_
      intro H2 T u2 w2 o2 g2 m2
      simp only [go_sem] at m2
      rw [List.append_nil] at g2
      have z2 := g2.sub hw (z1.trans ((Sub.refl _).new k1.1 _ _)) (fun b hb => by have := hS1 b hb; omega)
      have hT4 : ∀ b ∈ T, H.nxt + 4 ≤ b := fun b hb => by
        rcases g2.2.2.1 b hb with h | h
        · exact (hS1 b h).1
        · simp only [go_sem] at h; omega
      have c0 := g2.2.1 H.nxt _ (fun hm => by have := hS1 _ hm; omega) (by simp only [go_sem, e0, if_false]; exact a0)
      have c1 := g2.2.1 (H.nxt + 1) _ (fun hm => by have := hS1 _ hm; omega) (by simp only [go_sem, e1, if_false]; exact a1)
      have c2 := g2.2.1 (H.nxt + 2) _ (fun hm => by have := hS1 _ hm; omega) (by simp only [go_sem, e2, if_false]; exact a2)
      have c3 := g2.2.1 (H.nxt + 3) _ (fun hm => by have := hS1 _ hm; omega) (by simp only [go_sem, e3, if_false]; exact a3)
      have hA := Upd.anew hw hn hnS z2.1 ⟨g2.2.2.2, z2.2⟩
      have l2 := o2.leaf; have l2c := o2.one
      have n2 := z2.1.1
      have oc2 := oc.sub z2.1
      have hnT : ∀ b ∈ Sl ++ (Sk ++ T), b ∉ Sc := fun b hb hm => (List.nodup_append.1 hA.2.2.2.2).2.2 b hm b hb rfl
      by_cases ek : j.k = 31
      · have dk : decide (j.k + 1 = 32) = true := decide_eq_true (by omega)
        repeat' (first | simp -implicitDefEqProofs only [go_sem] | (simp -implicitDefEqProofs only [c0, c1, c2, c3, l2, l2c, dk, lc, cc, ll, cl, lk, ck, lr, cr, lj, cj, lt, ct, wr_succ, wr_zero, wr_none, set_set, Bool.and_self, blk_set_self, decide_true, decide_false, if_true, if_false, Bool.false_eq_true]) | (refine ixI ((oc2.setne (b := H.nxt + 1) (fun b hb => by have := hnc b hb; omega)).slr (W0 := W0)) ?_ (by omega) (by omega) (by rfl) (Sub.refl _)) | (rw [ed]) | (refine stI (oc2.setne (b := H.nxt + 1) (fun b hb => by have := hnc b hb; omega)) (w2.set (by omega) _) ?_; intro H3 w3 g3 o3) | fail)
        have d0 := (g3.2 H.nxt (fun hm => by have := hnc _ hm; omega)).trans ((blk_set_ne _ (by omega) _).trans c0)
        have d1 := (g3.2 (H.nxt + 1) (fun hm => by have := hnc _ hm; omega)).trans (blk_set_self _ _ _)
        have d2 := (g3.2 (H.nxt + 2) (fun hm => by have := hnc _ hm; omega)).trans ((blk_set_ne _ (by omega) _).trans c2)
        have d3 := (g3.2 (H.nxt + 3) (fun hm => by have := hnc _ hm; omega)).trans ((blk_set_ne _ (by omega) _).trans c3)
        have m3 := g3.1; simp only [go_sem] at m3
        repeat' (first | simp -implicitDefEqProofs only [go_sem] | (simp -implicitDefEqProofs (disch := omega) only [wrap_in]) | (simp -implicitDefEqProofs only [d0, d1, d2, d3, l2, l2c, dk, lc, cc, ll, cl, lk, ck, lr, cr, lj, cj, lt, ct, wr_succ, wr_zero, wr_none, set_set, Bool.and_self, blk_set_self, decide_true, decide_false, if_true, if_false, Bool.false_eq_true]) | ((with_reducible refine adraw_plan [(0, []), (1, []), (2, [1]), (3, [])] ?_ ?_ ?_); (· kernel_rfl); (· decide +kernel)))
        have g5 := (hA.2.setNew hw (b := H.nxt + 1) (by omega) _).trans hw (g3.upd' (fun x hx => List.mem_append_left _ hx) hA.2.2.2.2)
        rw [show flushD w t j = (cset w (drainC j) 0, { j with raw := j.raw ++ [cget w (drainC j)], k := j.k + 1, pc := 11 }) by unfold flushD; rw [if_neg (by omega), if_neg (by omega), if_neg (by omega), if_pos ek]]
        refine retK_two (SpR.fin (p := (cset w (drainC j) 0, { j with raw := j.raw ++ [cget w (drainC j)], k := j.k + 1, pc := 11 })) hw g5 ⟨hA.2.2.2.2, Sc, Sl, Sk ++ T, rfl, o3, ((ol.sub z2.1).setne (fun b hb => by have := hnS b (List.mem_append_right _ (List.mem_append_left _ hb)); omega)).chg g3 (fun b hb => hnT b (List.mem_append_left _ hb)), vk, u2, Sk, T, rfl, rfl, f0, f1, f2, f3, f4, (by simp only [inI64]; omega), (by simp only [inI64]; omega), f7, f8, f9, f10, f11, f12, f13, f14, ((f15.sub z2.1).setne (fun b hb => by have := hnS b (List.mem_append_right _ (List.mem_append_right _ (List.mem_append_left _ hb))); omega)).chg g3 (fun b hb => hnT b (List.mem_append_right _ (List.mem_append_left _ hb))), (o2.setne (fun b hb => by have := hT4 b hb; omega)).chg g3 (fun b hb => hnT b (List.mem_append_right _ (List.mem_append_right _ hb)))⟩ (fun b hb => by
            simp only [List.mem_append] at hb
            rcases hb with hb | hb | hb | hb
            · exact .inl (hnS b (List.mem_append_left _ hb))
            · exact .inl (hnS b (List.mem_append_right _ (List.mem_append_left _ hb)))
            · exact .inl (hnS b (List.mem_append_right _ (List.mem_append_right _ (List.mem_append_left _ hb))))
            · exact .inr (hT4 b hb)) (fun b hb => ?_) (Nat.le_refl _))
        simp only [blk_set, (show ¬ b = H.nxt by omega), (show ¬ b = H.nxt + 1 by omega), (show ¬ b = H.nxt + 2 by omega), (show ¬ b = H.nxt + 3 by omega), if_false]
      · have dk : decide (j.k + 1 = 32) = false := decide_eq_false (by omega)
        repeat' (first | simp -implicitDefEqProofs only [go_sem] | (simp -implicitDefEqProofs only [c0, c1, c2, c3, l2, l2c, dk, lc, cc, ll, cl, lk, ck, lr, cr, lj, cj, lt, ct, wr_succ, wr_zero, wr_none, set_set, Bool.and_self, blk_set_self, decide_true, decide_false, if_true, if_false, Bool.false_eq_true]) | (refine ixI ((oc2.setne (b := H.nxt + 1) (fun b hb => by have := hnc b hb; omega)).slr (W0 := W0)) ?_ (by omega) (by omega) (by rfl) (Sub.refl _)) | (rw [ed]) | (refine stI (oc2.setne (b := H.nxt + 1) (fun b hb => by have := hnc b hb; omega)) (w2.set (by omega) _) ?_; intro H3 w3 g3 o3) | fail)
        have d0 := (g3.2 H.nxt (fun hm => by have := hnc _ hm; omega)).trans ((blk_set_ne _ (by omega) _).trans c0)
        have d1 := (g3.2 (H.nxt + 1) (fun hm => by have := hnc _ hm; omega)).trans (blk_set_self _ _ _)
        have d2 := (g3.2 (H.nxt + 2) (fun hm => by have := hnc _ hm; omega)).trans ((blk_set_ne _ (by omega) _).trans c2)
        have d3 := (g3.2 (H.nxt + 3) (fun hm => by have := hnc _ hm; omega)).trans ((blk_set_ne _ (by omega) _).trans c3)
        have m3 := g3.1; simp only [go_sem] at m3
        repeat' (first | simp -implicitDefEqProofs only [go_sem] | (simp -implicitDefEqProofs (disch := omega) only [wrap_in]) | (simp -implicitDefEqProofs only [d0, d1, d2, d3, l2, l2c, dk, lc, cc, ll, cl, lk, ck, lr, cr, lj, cj, lt, ct, wr_succ, wr_zero, wr_none, set_set, Bool.and_self, blk_set_self, decide_true, decide_false, if_true, if_false, Bool.false_eq_true]) | ((with_reducible refine adraw_plan [(0, []), (1, []), (2, [1]), (3, [])] ?_ ?_ ?_); (· kernel_rfl); (· decide +kernel)))
        have g5 := (hA.2.setNew hw (b := H.nxt + 1) (by omega) _).trans hw (g3.upd' (fun x hx => List.mem_append_left _ hx) hA.2.2.2.2)
        rw [show flushD w t j = (cset w (drainC j) 0, { j with raw := j.raw ++ [cget w (drainC j)], k := j.k + 1, pc := j.pc }) by unfold flushD; rw [if_neg (by omega), if_neg (by omega), if_neg (by omega), if_neg ek]]
        refine retK_two (SpR.fin (p := (cset w (drainC j) 0, { j with raw := j.raw ++ [cget w (drainC j)], k := j.k + 1, pc := j.pc })) hw g5 ⟨hA.2.2.2.2, Sc, Sl, Sk ++ T, rfl, o3, ((ol.sub z2.1).setne (fun b hb => by have := hnS b (List.mem_append_right _ (List.mem_append_left _ hb)); omega)).chg g3 (fun b hb => hnT b (List.mem_append_left _ hb)), vk, u2, Sk, T, rfl, rfl, f0, f1, f2, f3, f4, f5, (by simp only [inI64]; omega), f7, f8, f9, f10, f11, f12, f13, f14, ((f15.sub z2.1).setne (fun b hb => by have := hnS b (List.mem_append_right _ (List.mem_append_right _ (List.mem_append_left _ hb))); omega)).chg g3 (fun b hb => hnT b (List.mem_append_right _ (List.mem_append_left _ hb))), (o2.setne (fun b hb => by have := hT4 b hb; omega)).chg g3 (fun b hb => hnT b (List.mem_append_right _ (List.mem_append_right _ hb)))⟩ (fun b hb => by
            simp only [List.mem_append] at hb
            rcases hb with hb | hb | hb | hb
            · exact .inl (hnS b (List.mem_append_left _ hb))
            · exact .inl (hnS b (List.mem_append_right _ (List.mem_append_left _ hb)))
            · exact .inl (hnS b (List.mem_append_right _ (List.mem_append_right _ (List.mem_append_left _ hb))))
            · exact .inr (hT4 b hb)) (fun b hb => ?_) (Nat.le_refl _))
        simp only [blk_set, (show ¬ b = H.nxt by omega), (show ¬ b = H.nxt + 1 by omega), (show ¬ b = H.nxt + 2 by omega), (show ¬ b = H.nxt + 3 by omega), if_false]
    · refine ACallK.of (l2Copy_ok _ vr j.raw _ (f16.slr.sub (by exact by repeat (first | exact Sub.refl _ | assumption | refine Sub.new hc.1 ?_ _ _ | refine Sub.set hc.1 ?_ (by omega) _ | refine Sub.trans ?_ (by assumption)))) (by omega)).cl ?_
      rintro u H1 ⟨⟨s1, S1, o1, F1⟩, k1⟩
      have n1' := s1.1; simp only [go_sem] at n1'
      have z1 : Sub H H1 := Sub.trans (by exact by repeat (first | exact Sub.refl _ | assumption | refine Sub.new hc.1 ?_ _ _ | refine Sub.set hc.1 ?_ (by omega) _ | refine Sub.trans ?_ (by assumption))) s1
      have a0 := s1.2 H.nxt _ (by simp only [go_sem]; rfl)
      have a1 := s1.2 (H.nxt + 1) _ (by simp only [go_sem]; rfl)
      have a2 := s1.2 (H.nxt + 2) _ (by simp only [go_sem]; rfl)
      have a3 := s1.2 (H.nxt + 3) _ (by simp only [go_sem]; rfl)
      have hS1 : ∀ b ∈ S1, H.nxt + 4 ≤ b ∧ b < H1.nxt := fun b hb => by have := F1.2 b hb; simp only [go_sem] at this; have := k1.1.lt' (o1.isin b hb); omega
      have e0 : ¬ H.nxt = H1.nxt := by omega
      have e1 : ¬ H.nxt + 1 = H1.nxt := by omega
      have e2 : ¬ H.nxt + 2 = H1.nxt := by omega
      have e3 : ¬ H.nxt + 3 = H1.nxt := by omega
      have a4 := s1.2 (H.nxt + 4) _ (by simp only [go_sem]; rfl)
      repeat' (first | simp -implicitDefEqProofs only [go_sem] | (simp -implicitDefEqProofs only [a0, a1, a2, a3, e0, e1, e2, e3, lc, cc, ll, cl, lk, ck, lr, cr, lj, cj, lt, ct, wr_succ, wr_zero, wr_none, set_set, Bool.and_self, if_false]) | (refine ixI hu ?_) | (refine rdI hu ?_) | (rw [ed]) | (with_reducible refine And.intro ?_ ?_))
      refine app_one (x := w.cells.getD (drainC j) 0) (S := S1) (S2 := []) o1 ⟨rfl, rfl, hId⟩ (by simpa using F1.1) k1.1 a4 (fun hm => by have := F1.2 _ hm; simp only [go_sem] at this; omega) ?_
      intro H2 T u2 w2 o2 g2 m2
      rw [List.append_nil] at g2
      have z2 := g2.sub hw z1 (fun b hb => by have := hS1 b hb; omega)
      have hT4 : ∀ b ∈ T, H.nxt + 4 ≤ b := fun b hb => by
        rcases g2.2.2.1 b hb with h | h
        · exact (hS1 b h).1
        · omega
      have c0 := g2.2.1 H.nxt _ (fun hm => by have := hS1 _ hm; omega) a0
      have c1 := g2.2.1 (H.nxt + 1) _ (fun hm => by have := hS1 _ hm; omega) a1
      have c2 := g2.2.1 (H.nxt + 2) _ (fun hm => by have := hS1 _ hm; omega) a2
      have c3 := g2.2.1 (H.nxt + 3) _ (fun hm => by have := hS1 _ hm; omega) a3
      have hA := Upd.anew hw hn hnS z2.1 ⟨g2.2.2.2, z2.2⟩
      have l2 := o2.leaf; have l2c := o2.one
      have n2 := z2.1.1
      have oc2 := oc.sub z2.1
      have hnT : ∀ b ∈ Sl ++ (Sk ++ T), b ∉ Sc := fun b hb hm => (List.nodup_append.1 hA.2.2.2.2).2.2 b hm b hb rfl
      by_cases ek : j.k = 31
      · have dk : decide (j.k + 1 = 32) = true := decide_eq_true (by omega)
        repeat' (first | simp -implicitDefEqProofs only [go_sem] | (simp -implicitDefEqProofs only [c0, c1, c2, c3, l2, l2c, dk, lc, cc, ll, cl, lk, ck, lr, cr, lj, cj, lt, ct, wr_succ, wr_zero, wr_none, set_set, Bool.and_self, blk_set_self, decide_true, decide_false, if_true, if_false, Bool.false_eq_true]) | (refine ixI ((oc2.setne (b := H.nxt + 1) (fun b hb => by have := hnc b hb; omega)).slr (W0 := W0)) ?_ (by omega) (by omega) (by rfl) (Sub.refl _)) | (rw [ed]) | (refine stI (oc2.setne (b := H.nxt + 1) (fun b hb => by have := hnc b hb; omega)) (w2.set (by omega) _) ?_; intro H3 w3 g3 o3) | fail)
        have d0 := (g3.2 H.nxt (fun hm => by have := hnc _ hm; omega)).trans ((blk_set_ne _ (by omega) _).trans c0)
        have d1 := (g3.2 (H.nxt + 1) (fun hm => by have := hnc _ hm; omega)).trans (blk_set_self _ _ _)
        have d2 := (g3.2 (H.nxt + 2) (fun hm => by have := hnc _ hm; omega)).trans ((blk_set_ne _ (by omega) _).trans c2)
        have d3 := (g3.2 (H.nxt + 3) (fun hm => by have := hnc _ hm; omega)).trans ((blk_set_ne _ (by omega) _).trans c3)
        have m3 := g3.1; simp only [go_sem] at m3
        repeat' (first | simp -implicitDefEqProofs only [go_sem] | (simp -implicitDefEqProofs (disch := omega) only [wrap_in]) | (simp -implicitDefEqProofs only [d0, d1, d2, d3, l2, l2c, dk, lc, cc, ll, cl, lk, ck, lr, cr, lj, cj, lt, ct, wr_succ, wr_zero, wr_none, set_set, Bool.and_self, blk_set_self, decide_true, decide_false, if_true, if_false, Bool.false_eq_true]) | ((with_reducible refine adraw_plan [(0, []), (1, []), (2, [1]), (3, [])] ?_ ?_ ?_); (· kernel_rfl); (· decide +kernel)))
        have g5 := (hA.2.setNew hw (b := H.nxt + 1) (by omega) _).trans hw (g3.upd' (fun x hx => List.mem_append_left _ hx) hA.2.2.2.2)
        rw [show flushD w t j = (cset w (drainC j) 0, { j with raw := j.raw ++ [cget w (drainC j)], k := j.k + 1, pc := 11 }) by unfold flushD; rw [if_neg (by omega), if_neg (by omega), if_neg (by omega), if_pos ek]]
        refine retK_two (SpR.fin (p := (cset w (drainC j) 0, { j with raw := j.raw ++ [cget w (drainC j)], k := j.k + 1, pc := 11 })) hw g5 ⟨hA.2.2.2.2, Sc, Sl, Sk ++ T, rfl, o3, ((ol.sub z2.1).setne (fun b hb => by have := hnS b (List.mem_append_right _ (List.mem_append_left _ hb)); omega)).chg g3 (fun b hb => hnT b (List.mem_append_left _ hb)), vk, u2, Sk, T, rfl, rfl, f0, f1, f2, f3, f4, (by simp only [inI64]; omega), (by simp only [inI64]; omega), f7, f8, f9, f10, f11, f12, f13, f14, ((f15.sub z2.1).setne (fun b hb => by have := hnS b (List.mem_append_right _ (List.mem_append_right _ (List.mem_append_left _ hb))); omega)).chg g3 (fun b hb => hnT b (List.mem_append_right _ (List.mem_append_left _ hb))), (o2.setne (fun b hb => by have := hT4 b hb; omega)).chg g3 (fun b hb => hnT b (List.mem_append_right _ (List.mem_append_right _ hb)))⟩ (fun b hb => by
            simp only [List.mem_append] at hb
            rcases hb with hb | hb | hb | hb
            · exact .inl (hnS b (List.mem_append_left _ hb))
            · exact .inl (hnS b (List.mem_append_right _ (List.mem_append_left _ hb)))
            · exact .inl (hnS b (List.mem_append_right _ (List.mem_append_right _ (List.mem_append_left _ hb))))
            · exact .inr (hT4 b hb)) (fun b hb => ?_) (Nat.le_refl _))
        simp only [blk_set, (show ¬ b = H.nxt by omega), (show ¬ b = H.nxt + 1 by omega), (show ¬ b = H.nxt + 2 by omega), (show ¬ b = H.nxt + 3 by omega), if_false]
      · have dk : decide (j.k + 1 = 32) = false := decide_eq_false (by omega)
        repeat' (first | simp -implicitDefEqProofs only [go_sem] | (simp -implicitDefEqProofs only [c0, c1, c2, c3, l2, l2c, dk, lc, cc, ll, cl, lk, ck, lr, cr, lj, cj, lt, ct, wr_succ, wr_zero, wr_none, set_set, Bool.and_self, blk_set_self, decide_true, decide_false, if_true, if_false, Bool.false_eq_true]) | (refine ixI ((oc2.setne (b := H.nxt + 1) (fun b hb => by have := hnc b hb; omega)).slr (W0 := W0)) ?_ (by omega) (by omega) (by rfl) (Sub.refl _)) | (rw [ed]) | (refine stI (oc2.setne (b := H.nxt + 1) (fun b hb => by have := hnc b hb; omega)) (w2.set (by omega) _) ?_; intro H3 w3 g3 o3) | fail)
        have d0 := (g3.2 H.nxt (fun hm => by have := hnc _ hm; omega)).trans ((blk_set_ne _ (by omega) _).trans c0)
        have d1 := (g3.2 (H.nxt + 1) (fun hm => by have := hnc _ hm; omega)).trans (blk_set_self _ _ _)
        have d2 := (g3.2 (H.nxt + 2) (fun hm => by have := hnc _ hm; omega)).trans ((blk_set_ne _ (by omega) _).trans c2)
        have d3 := (g3.2 (H.nxt + 3) (fun hm => by have := hnc _ hm; omega)).trans ((blk_set_ne _ (by omega) _).trans c3)
        have m3 := g3.1; simp only [go_sem] at m3
        repeat' (first | simp -implicitDefEqProofs only [go_sem] | (simp -implicitDefEqProofs (disch := omega) only [wrap_in]) | (simp -implicitDefEqProofs only [d0, d1, d2, d3, l2, l2c, dk, lc, cc, ll, cl, lk, ck, lr, cr, lj, cj, lt, ct, wr_succ, wr_zero, wr_none, set_set, Bool.and_self, blk_set_self, decide_true, decide_false, if_true, if_false, Bool.false_eq_true]) | ((with_reducible refine adraw_plan [(0, []), (1, []), (2, [1]), (3, [])] ?_ ?_ ?_); (· kernel_rfl); (· decide +kernel)))
        have g5 := (hA.2.setNew hw (b := H.nxt + 1) (by omega) _).trans hw (g3.upd' (fun x hx => List.mem_append_left _ hx) hA.2.2.2.2)
        rw [show flushD w t j = (cset w (drainC j) 0, { j with raw := j.raw ++ [cget w (drainC j)], k := j.k + 1, pc := j.pc }) by unfold flushD; rw [if_neg (by omega), if_neg (by omega), if_neg (by omega), if_neg ek]]
        refine retK_two (SpR.fin (p := (cset w (drainC j) 0, { j with raw := j.raw ++ [cget w (drainC j)], k := j.k + 1, pc := j.pc })) hw g5 ⟨hA.2.2.2.2, Sc, Sl, Sk ++ T, rfl, o3, ((ol.sub z2.1).setne (fun b hb => by have := hnS b (List.mem_append_right _ (List.mem_append_left _ hb)); omega)).chg g3 (fun b hb => hnT b (List.mem_append_left _ hb)), vk, u2, Sk, T, rfl, rfl, f0, f1, f2, f3, f4, f5, (by simp only [inI64]; omega), f7, f8, f9, f10, f11, f12, f13, f14, ((f15.sub z2.1).setne (fun b hb => by have := hnS b (List.mem_append_right _ (List.mem_append_right _ (List.mem_append_left _ hb))); omega)).chg g3 (fun b hb => hnT b (List.mem_append_right _ (List.mem_append_left _ hb))), (o2.setne (fun b hb => by have := hT4 b hb; omega)).chg g3 (fun b hb => hnT b (List.mem_append_right _ (List.mem_append_right _ hb)))⟩ (fun b hb => by
            simp only [List.mem_append] at hb
            rcases hb with hb | hb | hb | hb
            · exact .inl (hnS b (List.mem_append_left _ hb))
            · exact .inl (hnS b (List.mem_append_right _ (List.mem_append_left _ hb)))
            · exact .inl (hnS b (List.mem_append_right _ (List.mem_append_right _ (List.mem_append_left _ hb))))
            · exact .inr (hT4 b hb)) (fun b hb => ?_) (Nat.le_refl _))
        simp only [blk_set, (show ¬ b = H.nxt by omega), (show ¬ b = H.nxt + 1 by omega), (show ¬ b = H.nxt + 2 by omega), (show ¬ b = H.nxt + 3 by omega), if_false]
end Go.Proofs.YtipfnhfcoolhaaaGreat.Aw
