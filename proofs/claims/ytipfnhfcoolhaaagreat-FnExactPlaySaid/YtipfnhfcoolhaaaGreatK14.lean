/- Parts of a proof: Fwp Fwr Fwt. -/
import Derived.Test.YtipfnhfcoolhaaaGreatK04
import Derived.Test.YtipfnhfcoolhaaaGreatK07
set_option linter.unusedVariables false
set_option linter.unusedSimpArgs false
section
namespace Go.Proofs.YtipfnhfcoolhaaaGreat.Aw
open Go Go.RowKit
set_option maxRecDepth 100000
set_option maxHeartbeats 2000000
attribute [-go_sem] wr_eq
theorem l11Point_ok (W0 : World) (vc vj vt vl : AV) (cj : List AV) (w : WorldD) (t : Nat) (j : JobD) (code win : Int) (S : List Nat) (H : AH) (hs : Sps H S w j vc vl cj) (hl : w.log.length ≤ 1000000000) (hj : leafA vj = true ∧ cellsA vj = some [vj]) (ht : leafA vt = true ∧ cellsA vt = some [vt]) (hb : inI64 code ∧ inI64 win ∧ inI64 w.now ∧ inI64 t) :
    ACalls Tryz.prog W0 232 [.agg (wcs vc vj vt vl w), .v (.int .i64 t), .agg cj, .v (.int .i64 code), .v (.int .i64 win)] H (SpR H S vj vt (pointD w t j code win)) := by
  refine acallw Tryz.func232 rfl (by kernel_rfl) (by kernel_rfl) fun hc hw => ?_
  obtain ⟨hn, Sc, Sl, Sj, rfl, oc, ol, oj⟩ := hs
  obtain ⟨vk, vr, Sk, Sr, rfl, rfl, f0, f1, f2, f3, f4, f5, f6, f7, f8, f9, f10, f11, f12, f13, f14, f15, f16⟩ := oj
  have lc := oc.leaf; have cc := oc.one
  have ll := ol.leaf; have cl := ol.one
  have lk := f15.leaf; have ck := f15.one
  have lr := f16.leaf; have cr := f16.one
  obtain ⟨lj, cj⟩ := hj
  obtain ⟨lt, ct⟩ := ht
  obtain ⟨h1, h2, h3, h4⟩ := hb
  simp only [wcs]
  repeat' (first | simp -implicitDefEqProofs only [go_sem] | (simp -implicitDefEqProofs only [lc, cc, ll, cl, lk, ck, lr, cr, lj, cj, lt, ct, wr_succ, wr_zero, wr_none, set_set, Bool.and_self]))
  have hnc : ∀ b ∈ Sc, b < H.nxt := fun b hb => hw.lt' (oc.isin b hb)
  have hnl : ∀ b ∈ Sl, b < H.nxt := fun b hb => hw.lt' (ol.isin b hb)
  have hnj : ∀ b ∈ Sk ++ Sr, b < H.nxt := fun b hb => (List.mem_append.1 hb).elim (fun h => hw.lt' (f15.isin b h)) (fun h => hw.lt' (f16.isin b h))
  obtain ⟨n1, n2, n3⟩ := List.nodup_append.1 hn
  obtain ⟨n4, n5, n6⟩ := List.nodup_append.1 n2
  refine app_one (x := pointE w t j code win) (S := Sl) (S2 := []) (ol.sub (by repeat (first | exact Sub.refl _ | assumption | refine Sub.new hc.1 ?_ _ _ | refine Sub.set hc.1 ?_ (by omega) _ | refine Sub.trans ?_ (by assumption)))) (EvD.own_mk (by simp only [pointE, inI64]; omega) h4 f4 h3 f0 f1 f2 f3 h1 h2 inI_z inI_z (ownS_none _)) (by simpa using n4) ?_ ?_ (fun hm => by have := hnl _ hm; omega) ?_
  · repeat (first | exact hw | refine AH.wf.new ?_ _ _ | refine AH.wf.set ?_ ?_ _)
    all_goals (simp only [go_sem]; omega)
  · simp only [go_sem]; rfl
  intro H2 Sl2 vl2 w2 o2 g2 m2
  rw [List.append_nil] at g2
  have a0 := g2.2.1 H.nxt _ (fun hm => by have := hnl _ hm; omega) (by simp only [go_sem]; rfl)
  have a1 := g2.2.1 (H.nxt + 1) _ (fun hm => by have := hnl _ hm; omega) (by simp only [go_sem]; rfl)
  have a2 := g2.2.1 (H.nxt + 2) _ (fun hm => by have := hnl _ hm; omega) (by simp only [go_sem]; rfl)
  have a3 := g2.2.1 (H.nxt + 3) _ (fun hm => by have := hnl _ hm; omega) (by simp only [go_sem]; rfl)
  have l2 := o2.leaf; have c2 := o2.one
  repeat' (first | simp -implicitDefEqProofs only [go_sem] | (simp -implicitDefEqProofs only [a0, a1, a2, a3, lc, cc, l2, c2, lk, ck, lr, cr, lj, cj, lt, ct, wr_succ, wr_zero, wr_none, set_set, blk_set_self, Bool.and_self]) | ((with_reducible refine adraw_plan [(0, []), (1, []), (2, [1]), (3, [])] ?_ ?_ ?_); (· kernel_rfl); (· decide +kernel)))
  have hS2 : ∀ b ∈ Sl2, b < H.nxt ∨ H.nxt + 4 ≤ b := fun b hb => by
    rcases g2.2.2.1 b hb with h | h
    · exact .inl (hnl b h)
    · simp only [go_sem] at h; omega
  have g3 := (g2.start (H := H) (by repeat (first | exact Sub.refl _ | assumption | refine Sub.new hc.1 ?_ _ _ | refine Sub.set hc.1 ?_ (by omega) _ | refine Sub.trans ?_ (by assumption)))).three hw hn (fun b hb => oc.isin b hb) (fun b hb => (List.mem_append.1 hb).elim (fun h => f15.isin b h) (fun h => f16.isin b h))
  have oc2 := g2.own (oc.sub (by repeat (first | exact Sub.refl _ | assumption | refine Sub.new hc.1 ?_ _ _ | refine Sub.set hc.1 ?_ (by omega) _ | refine Sub.trans ?_ (by assumption)))) (fun b hb hm => n3 b hb b (List.mem_append_left _ hm) rfl)
  have ok2 := g2.own (f15.sub (by repeat (first | exact Sub.refl _ | assumption | refine Sub.new hc.1 ?_ _ _ | refine Sub.set hc.1 ?_ (by omega) _ | refine Sub.trans ?_ (by assumption)))) (fun b hb hm => n6 b hm b (List.mem_append_left _ hb) rfl)
  have or2 := g2.own (f16.sub (by repeat (first | exact Sub.refl _ | assumption | refine Sub.new hc.1 ?_ _ _ | refine Sub.set hc.1 ?_ (by omega) _ | refine Sub.trans ?_ (by assumption)))) (fun b hb hm => n6 b hm b (List.mem_append_right _ hb) rfl)
  refine retK_two (SpR.fin (p := pointD w t j code win) hw g3 ⟨g3.2.2.2, Sc, Sl2, Sk ++ Sr, rfl, oc2, o2, vk, vr, Sk, Sr, rfl, rfl, f0, f1, f2, f3, f4, f5, f6, f7, f8, f9, f10, f11, f12, f13, h1, ok2, or2⟩ (fun b hb => ?_) (fun b hb => ?_) (Nat.le_refl _))
  · rcases List.mem_append.1 hb with hb | hb
    · exact .inl (hnc b hb)
    · rcases List.mem_append.1 hb with hb | hb
      · exact hS2 b hb
      · exact .inl (hnj b hb)
  · simp only [blk_set]; rw [if_neg (by omega), if_neg (by omega), if_neg (by omega)]
structure SpP (H : AH) (S : List Nat) (w : WorldD) (j : JobD) (t : Nat) (vc vj vt vl : AV) (cj : List AV) : Prop where
  sps : Sps H S w j vc vl cj
  ll : w.log.length ≤ 1000000000
  lj : leafA vj = true ∧ cellsA vj = some [vj]
  lt : leafA vt = true ∧ cellsA vt = some [vt]
  nw : inI64 w.now
  tt : t ≤ 3
theorem SpP.sub {H H' : AH} {S : List Nat} {w : WorldD} {j : JobD} {t : Nat} {vc vj vt vl : AV} {cj : List AV} (h : SpP H S w j t vc vj vt vl cj) (hs : Sub H H') : SpP H' S w j t vc vj vt vl cj := ⟨h.sps.sub hs, h.ll, h.lj, h.lt, h.nw, h.tt⟩
theorem l11End_ok (W0 : World) (vc vj vt vl : AV) (cj : List AV) (w : WorldD) (t : Nat) (j : JobD) (code : Int) (S : List Nat) (H : AH) (hp : SpP H S w j t vc vj vt vl cj) (hb : inI64 code) :
    ACalls Tryz.prog W0 228 [.agg (wcs vc vj vt vl w), .v (.int .i64 t), .agg cj, .v (.int .i64 code)] H (SpR H S vj vt (endD w t j code)) := by
  refine acallw Tryz.func228 rfl (by kernel_rfl) (by kernel_rfl) fun hc hw => ?_
  obtain ⟨hs, hl, hj, ht, hnw, htt⟩ := hp
  have hs0 := hs
  obtain ⟨hn, Sc, Sl, Sj, rfl, oc, ol, oj⟩ := hs
  obtain ⟨vk, vr, Sk, Sr, rfl, rfl, f0, f1, f2, f3, f4, f5, f6, f7, f8, f9, f10, f11, f12, f13, f14, f15, f16⟩ := oj
  have lc := oc.leaf; have cc := oc.one
  have ll := ol.leaf; have cl := ol.one
  have lk := f15.leaf; have ck := f15.one
  have lr := f16.leaf; have cr := f16.one
  have hnS : ∀ b ∈ Sc ++ (Sl ++ (Sk ++ Sr)), b < H.nxt := fun b hb => hw.lt' (hs0.isin b hb)
  obtain ⟨lj, cj⟩ := hj
  obtain ⟨lt, ct⟩ := ht
  simp only [wcs]
  repeat' (first | simp -implicitDefEqProofs only [go_sem])
  refine ACallK.spr (l11Point_ok _ vc vj vt vl _ w t j code (-1) _ _ ?_ hl ⟨lj, cj⟩ ⟨lt, ct⟩ ⟨hb, by simp only [inI64]; omega, hnw, by simp only [inI64]; omega⟩) hw ?_ hnS ?_
  · exact hs0.sub (by repeat (first | exact Sub.refl _ | assumption | refine Sub.new hc.1 ?_ _ _ | refine Sub.set hc.1 ?_ (by omega) _ | refine Sub.trans ?_ (by assumption)))
  · exact by repeat (first | exact Sub.refl _ | assumption | refine Sub.new hc.1 ?_ _ _ | refine Sub.set hc.1 ?_ (by omega) _ | refine Sub.trans ?_ (by assumption))
  intro vc2 vl2 cj2 H2 S2 w2 hs2 g2 kq m2 hS2
  have hs20 := hs2
  obtain ⟨hn2, Sc2, Sl2, Sj2, rfl, oc2, ol2, oj2⟩ := hs2
  obtain ⟨vk2, vr2, Sk2, Sr2, rfl, rfl, f_20, f_21, f_22, f_23, f_24, f_25, f_26, f_27, f_28, f_29, f_210, f_211, f_212, f_213, f_214, f_215, f_216⟩ := oj2
  have lc2 := oc2.leaf; have cc2 := oc2.one
  have ll2 := ol2.leaf; have cl2 := ol2.one
  have lk2 := f_215.leaf; have ck2 := f_215.one
  have lr2 := f_216.leaf; have cr2 := f_216.one
  have a0 := kq H.nxt _ (fun hm => by have := hnS _ hm; omega) (by simp only [go_sem]; rfl)
  have a1 := kq (H.nxt + 1) _ (fun hm => by have := hnS _ hm; omega) (by simp only [go_sem]; rfl)
  have a2 := kq (H.nxt + 2) _ (fun hm => by have := hnS _ hm; omega) (by simp only [go_sem]; rfl)
  have a3 := kq (H.nxt + 3) _ (fun hm => by have := hnS _ hm; omega) (by simp only [go_sem]; rfl)
  simp only [wcs]
  repeat' (first | simp -implicitDefEqProofs only [go_sem] | (simp -implicitDefEqProofs only [a0, a1, a2, a3, lc2, cc2, ll2, cl2, lk2, ck2, lr2, cr2, lj, cj, lt, ct, wr_succ, wr_zero, wr_none, set_set, blk_set_self, Bool.and_self]) | ((with_reducible refine adraw_plan [(0, []), (1, []), (2, [1]), (3, [])] ?_ ?_ ?_); (· kernel_rfl); (· decide +kernel)))
  simp only [go_sem] at hS2
  refine retK_two (SpR.fin (p := endD w t j code) hw g2 ⟨hn2, Sc2, Sl2, Sk2 ++ Sr2, rfl, oc2, ol2, vk2, vr2, Sk2, Sr2, rfl, rfl, f_20, f_21, f_22, f_23, f_24, (by simp only [endD, inI64]; omega), f_26, f_27, f_28, f_29, f_210, f_211, f_212, f_213, f_214, f_215, f_216⟩ hS2 (fun b hb => ?_) (Nat.le_refl _))
  simp only [blk_set]; rw [if_neg (by omega), if_neg (by omega), if_neg (by omega), if_neg (by omega)]
end Go.Proofs.YtipfnhfcoolhaaaGreat.Aw
end
section
namespace Go.Proofs.YtipfnhfcoolhaaaGreat.Aw
open Go Go.RowKit
set_option maxRecDepth 100000
set_option maxHeartbeats 2000000
attribute [-go_sem] wr_eq
theorem Sps.cset {H H' : AH} {Sc Sl Sj : List Nat} {w : WorldD} {j : JobD} {vc vl : AV} {cj : List AV} (hn : (Sc ++ (Sl ++ Sj)).Nodup) (ol : OwnS H Sl vl w.log) (oj : Own.own H Sj cj j) (g : Chg Sc H H') {i : Nat} {n : Int} (oc : OwnS H' Sc vc (w.cells.set i n)) : Sps H' (Sc ++ (Sl ++ Sj)) (cset w i n) j vc vl cj := by
  obtain ⟨n1, n2, n3⟩ := List.nodup_append.1 hn
  exact ⟨hn, Sc, Sl, Sj, rfl, oc, ol.chg g (fun b hb hm => n3 b hm b (List.mem_append_left _ hb) rfl), Own.chg oj g (fun b hb hm => n3 b hm b (List.mem_append_right _ hb) rfl)⟩
theorem Chg.upd' {S T : List Nat} {a b : AH} (h : Chg S a b) (hs : ∀ x ∈ S, x ∈ T) (hn : T.Nodup) : Upd T a b T := (h.sub hs).upd hn
theorem l11Claim_ok (W0 : World) (vc vj vt vl : AV) (cj : List AV) (w : WorldD) (t : Nat) (j : JobD) (S : List Nat) (H : AH) (hp : SpP H S w j t vc vj vt vl cj) (hok : cellsOk w.cells = true) (hkey : keyOk j.op.key = true) (hk : 0 ≤ j.k ∧ j.k ≤ 3) (hT : inI64 (tagged j.op.key j.op.what)) :
    ACalls Tryz.prog W0 147 [.agg (wcs vc vj vt vl w), .v (.int .i64 t), .agg cj] H (SpR H S vj vt (claimD w t j)) := by
  refine acallw Tryz.func147 rfl (by kernel_rfl) (by kernel_rfl) fun hc hw => ?_
  have hp0 := hp
  have hll := hp.ll
  obtain ⟨hs, hl, hj, ht, hnw, htt⟩ := hp
  have hs0 := hs
  obtain ⟨hn, Sc, Sl, Sj, rfl, oc, ol, oj⟩ := hs
  obtain ⟨vk, vr, Sk, Sr, rfl, rfl, f0, f1, f2, f3, f4, f5, f6, f7, f8, f9, f10, f11, f12, f13, f14, f15, f16⟩ := oj
  have lc := oc.leaf; have cc := oc.one
  have ll := ol.leaf; have cl := ol.one
  have lk := f15.leaf; have ck := f15.one
  have lr := f16.leaf; have cr := f16.one
  have hnS : ∀ b ∈ Sc ++ (Sl ++ (Sk ++ Sr)), b < H.nxt := fun b hb => hw.lt' (hs0.isin b hb)
  obtain ⟨lj, cj⟩ := hj
  obtain ⟨lt, ct⟩ := ht
  simp only [wcs]
  have hq := probe_bd hkey hk.1 hk.2
  have hu := oc.slr (W0 := W0)
  have hlen := cellsOk_len hok
  have htag : probeTag w j = w.cells.getD (3 + probe j.op.key j.k).toNat 0 := by unfold probeTag cget; rw [keyCell_in hq]
  have hcd : claimD w t j = if w.cells.getD (3 + probe j.op.key j.k).toNat 0 = 0 then endD (cset w (3 + probe j.op.key j.k).toNat (tagged j.op.key j.op.what)) t j 0 else (w, { j with pc := 0 }) := by unfold claimD; rw [htag, keyCell_in hq]
  rw [hcd]
  generalize hqq : probe j.op.key j.k = q at *
  have hj0 : Own.own H (Sk ++ Sr) [AV.v (Value.bool j.busy), AV.v (Value.int IntKind.i64 j.op.kind), AV.v (Value.string j.op.key), AV.v (Value.int IntKind.i64 j.op.what), AV.v (Value.int IntKind.i64 j.op.val), AV.v (Value.int IntKind.i64 j.serial), AV.v (Value.int IntKind.i64 j.pc), AV.v (Value.int IntKind.i64 j.k), AV.v (Value.int IntKind.i64 j.slot), AV.v (Value.int IntKind.i64 j.what), AV.v (Value.int IntKind.i64 j.e), AV.v (Value.int IntKind.i64 j.stamp), AV.v (Value.int IntKind.i64 j.old), AV.v (Value.int IntKind.i64 j.flips), AV.v (Value.int IntKind.i64 j.steps), AV.v (Value.int IntKind.i64 j.code), vk, vr] j := ⟨vk, vr, Sk, Sr, rfl, rfl, f0, f1, f2, f3, f4, f5, f6, f7, f8, f9, f10, f11, f12, f13, f14, f15, f16⟩
  repeat' (first | simp -implicitDefEqProofs only [go_sem] | (simp -implicitDefEqProofs only [lc, cc, ll, cl, lk, ck, lr, cr, lj, cj, lt, ct, wr_succ, wr_zero, wr_none, set_set, Bool.and_self]) | (refine ACallK.eq (Probe_spec _ _ _ _ f1) ?_; rw [hqq]) | (refine ACallK.eq (KeyCell_spec _ _ _) ?_; rw [keyCell_in hq]) | (refine ixI hu ?_) | (refine rdI hu ?_) | (refine ACallK.eq (Tagged_spec _ _ _ _ f1) ?_) | (refine stI (oc.sub (by exact by repeat (first | exact Sub.refl _ | assumption | refine Sub.new hc.1 ?_ _ _ | refine Sub.set hc.1 ?_ (by omega) _ | refine Sub.trans ?_ (by assumption)))) (by repeat (first | exact hw | refine AH.wf.new ?_ _ _)) ?_ hT; intro H2 w2 g2 o2) | refine acond_ndec (fun _ => ?_) (fun _ => ?_) | ((with_reducible refine adraw_plan [(0, []), (1, []), (2, [1]), (3, [])] ?_ ?_ ?_); (· kernel_rfl); (· decide +kernel)) | ((with_reducible refine adraw_plan [(0, []), (1, []), (2, []), (3, []), (4, []), (5, []), (6, []), (7, []), (8, []), (9, [0, 1, 2]), (10, []), (11, [])] ?_ ?_ ?_); (· kernel_rfl); (· decide +kernel)))
  · rename_i hz
    rw [if_neg hz]
    refine retK_two (SpR.fin (p := (w, { j with pc := 0 })) hw (Upd.idle (Sub.refl H) hn) ⟨hn, Sc, Sl, Sk ++ Sr, rfl, oc, ol, vk, vr, Sk, Sr, rfl, rfl, f0, f1, f2, f3, f4, (by simp only [inI64]; omega), f6, f7, f8, f9, f10, f11, f12, f13, f14, f15, f16⟩ (fun b hb => .inl (hnS b hb)) (fun b hb => ?_) (Nat.le_add_right _ 4))
    simp only [go_sem, (show ¬ b = H.nxt by omega), (show ¬ b = H.nxt + 1 by omega), (show ¬ b = H.nxt + 2 by omega), (show ¬ b = H.nxt + 3 by omega), if_false]
  · rename_i hz
    rw [if_pos hz]
    have hnc : ∀ b ∈ Sc, b < H.nxt := fun b hb => hnS b (List.mem_append_left _ hb)
    have a0 := (g2.2 H.nxt (fun hm => by have := hnc _ hm; omega)).trans (by simp only [go_sem]; rfl)
    have a1 := (g2.2 (H.nxt + 1) (fun hm => by have := hnc _ hm; omega)).trans (by simp only [go_sem]; rfl)
    have a2 := (g2.2 (H.nxt + 2) (fun hm => by have := hnc _ hm; omega)).trans (by simp only [go_sem]; rfl)
    have a3 := (g2.2 (H.nxt + 3) (fun hm => by have := hnc _ hm; omega)).trans (by simp only [go_sem]; rfl)
    repeat' (first | simp -implicitDefEqProofs only [go_sem] | (simp -implicitDefEqProofs only [a0, a1, lc, cc, ll, cl, lk, ck, lr, cr, lj, cj, lt, ct, wr_succ, wr_zero, wr_none, set_set, Bool.and_self]))
    have hs2 := Sps.cset (i := (3 + q).toNat) hn (ol.sub (by exact by repeat (first | exact Sub.refl _ | assumption | refine Sub.new hc.1 ?_ _ _ | refine Sub.set hc.1 ?_ (by omega) _ | refine Sub.trans ?_ (by assumption)))) (Own.sub hj0 (by exact by repeat (first | exact Sub.refl _ | assumption | refine Sub.new hc.1 ?_ _ _ | refine Sub.set hc.1 ?_ (by omega) _ | refine Sub.trans ?_ (by assumption)))) g2 o2
    have gU : Upd (Sc ++ (Sl ++ (Sk ++ Sr))) H H2 (Sc ++ (Sl ++ (Sk ++ Sr))) := (g2.upd' (fun x hx => List.mem_append_left _ hx) hn).start (by exact by repeat (first | exact Sub.refl _ | assumption | refine Sub.new hc.1 ?_ _ _ | refine Sub.set hc.1 ?_ (by omega) _ | refine Sub.trans ?_ (by assumption)))
    have n2 := g2.1; simp only [go_sem] at n2
    refine ACallK.spr (H0 := H2) (l11End_ok _ vc vj vt vl _ (cset w (3 + q).toNat (tagged j.op.key j.op.what)) t j 0 _ _ ⟨hs2, hll, ⟨lj, cj⟩, ⟨lt, ct⟩, hnw, htt⟩ (by simp only [inI64]; omega)) w2 (Sub.refl _) (fun b hb => w2.lt' (hs2.isin b hb)) ?_
    intro vc3 vl3 cj3 H3 S3 w3 hs3 g3 kq m3 hS3
    have hs30 := hs3
    obtain ⟨hn3, Sc3, Sl3, Sj3, rfl, oc3, ol3, oj3⟩ := hs3
    obtain ⟨vk3, vr3, Sk3, Sr3, rfl, rfl, f_30, f_31, f_32, f_33, f_34, f_35, f_36, f_37, f_38, f_39, f_310, f_311, f_312, f_313, f_314, f_315, f_316⟩ := oj3
    have lc3 := oc3.leaf; have cc3 := oc3.one
    have ll3 := ol3.leaf; have cl3 := ol3.one
    have lk3 := f_315.leaf; have ck3 := f_315.one
    have lr3 := f_316.leaf; have cr3 := f_316.one
    simp only [wcs]
    have c2 := kq (H.nxt + 2) _ (fun hm => by have := hnS _ hm; omega) a2
    have c3 := kq (H.nxt + 3) _ (fun hm => by have := hnS _ hm; omega) a3
    repeat' (first | simp -implicitDefEqProofs only [go_sem] | (simp -implicitDefEqProofs only [c2, c3, lc3, cc3, ll3, cl3, lk3, ck3, lr3, cr3, lj, cj, lt, ct, wr_succ, wr_zero, wr_none, set_set, blk_set_self, Bool.and_self]))
    have g4 := gU.trans hw g3
    refine retK_two (SpR.fin (p := endD (cset w (3 + q).toNat (tagged j.op.key j.op.what)) t j 0) hw g4 hs30 (fun b hb => ?_) (fun b hb => ?_) (Nat.le_refl _))
    · rcases g3.2.2.1 b hb with h | h
      · exact .inl (hnS b h)
      · omega
    · simp only [blk_set, (show ¬ b = H.nxt by omega), (show ¬ b = H.nxt + 1 by omega), (show ¬ b = H.nxt + 2 by omega), (show ¬ b = H.nxt + 3 by omega), if_false]
theorem l11Add_ok (W0 : World) (vc vj vt vl : AV) (w : WorldD) (i n : Int) (Sc : List Nat) (H : AH) (oc : OwnS H Sc vc w.cells) (hnd : Sc.Nodup) (hj : leafA vj = true ∧ cellsA vj = some [vj]) (ht : leafA vt = true ∧ cellsA vt = some [vt]) (hl : leafA vl = true ∧ cellsA vl = some [vl]) (hok : cellsOk w.cells = true) (hi : 0 ≤ i ∧ i ≤ 70) (hn : -281474976710655 ≤ n ∧ n ≤ 281474976710655) :
    ACalls Tryz.prog W0 230 [.agg (wcs vc vj vt vl w), .v (.int .i64 i), .v (.int .i64 n)] H (fun r H' => r = .tup [.agg (wcs vc vj vt vl w), .v (.int .i64 (cget w i.toNat))] ∧ Upd Sc H H' Sc ∧ OwnS H' Sc vc (cadd w i.toNat n).cells) := by
  refine acallw Tryz.func230 rfl (by kernel_rfl) (by kernel_rfl) fun hc hw => ?_
  have lc := oc.leaf; have cc := oc.one
  have hu := oc.slr (W0 := W0)
  have hlen := cellsOk_len hok
  have hW := cellsOk_get hok i.toNat
  unfold wordP at hW
  simp only [wcs]
  repeat' (first | simp -implicitDefEqProofs only [go_sem] | (refine ixI hu ?_) | (refine rdI hu ?_) | (simp -implicitDefEqProofs (disch := omega) only [wrap_in]) | (refine ACallK.eq (l2Mod_ok _ _ _ (by simp only [inI64]; omega)) ?_) | (refine stI (oc.sub (by exact by repeat (first | exact Sub.refl _ | assumption | refine Sub.new hc.1 ?_ _ _ | refine Sub.set hc.1 ?_ (by omega) _ | refine Sub.trans ?_ (by assumption)))) (by repeat (first | exact hw | refine AH.wf.new ?_ _ _)) ?_; intro H2 w2 g2 o2) | ((with_reducible refine adraw_plan [(0, []), (1, []), (2, []), (3, []), (4, []), (5, []), (6, [0, 1, 2]), (7, []), (8, [])] ?_ ?_ ?_); (· kernel_rfl); (· decide +kernel)))
  have hnc : ∀ b ∈ Sc, b < H.nxt := fun b hb => hw.lt' (oc.isin b hb)
  have a0 := (g2.2 H.nxt (fun hm => by have := hnc _ hm; omega)).trans (by simp only [go_sem]; rfl)
  have a1 := (g2.2 (H.nxt + 1) (fun hm => by have := hnc _ hm; omega)).trans (by simp only [go_sem]; rfl)
  have n2 := g2.1; simp only [go_sem] at n2
  repeat' (first | simp -implicitDefEqProofs only [go_sem] | (simp -implicitDefEqProofs only [a0, a1, lc, cc, hl.1, hl.2, hj.1, hj.2, ht.1, ht.2, wr_succ, wr_zero, wr_none, set_set, Bool.and_self]))
  refine retK_two ⟨rfl, ?_, ?_⟩
  · exact ((g2.upd hnd).start (H := H) (by exact by repeat (first | exact Sub.refl _ | assumption | refine Sub.new hc.1 ?_ _ _ | refine Sub.set hc.1 ?_ (by omega) _ | refine Sub.trans ?_ (by assumption)))).setNew hw (by omega) _
  · exact o2.setne (fun b hb => by have := hnc b hb; omega)
end Go.Proofs.YtipfnhfcoolhaaaGreat.Aw
end
section
namespace Go.Proofs.YtipfnhfcoolhaaaGreat.Aw
open Go Go.RowKit
set_option maxRecDepth 100000
set_option maxHeartbeats 2000000
attribute [-go_sem] wr_eq
theorem ACallK.addr {P : Program} {W0 : World} {K : Kt} {g : FuncId} {xs : List AV} {H0 H : AH} {Sc Sl Sj : List Nat} {w w' : WorldD} {j : JobD} {vc vl r : AV} {cj : List AV} (h : ACalls P W0 g xs H (fun v H' => v = r ∧ Upd Sc H H' Sc ∧ OwnS H' Sc vc w'.cells)) (hlog : w'.log = w.log) (hw0 : H0.wf) (hs : Sub H0 H) (hn : (Sc ++ (Sl ++ Sj)).Nodup) (ol : OwnS H Sl vl w.log) (oj : Own.own H Sj cj j)
    (k : ∀ H1, H1.wf → Sps H1 (Sc ++ (Sl ++ Sj)) w' j vc vl cj → Upd (Sc ++ (Sl ++ Sj)) H0 H1 (Sc ++ (Sl ++ Sj)) → (∀ b B, b ∉ Sc → H.blk b = some B → H1.blk b = some B) → H.nxt ≤ H1.nxt → K.k r H1) : ACallK (K := K) P W0 g xs H := by
  refine ACallK.of h.cl ?_
  rintro _ H1 ⟨⟨rfl, g1, o1⟩, c1⟩
  obtain ⟨n1, n2, n3⟩ := List.nodup_append.1 hn
  refine k H1 c1.1 ⟨hn, Sc, Sl, Sj, rfl, o1, ?_, g1.ownV oj (fun b hb hm => n3 b hm b (List.mem_append_right _ hb) rfl)⟩ ?_ g1.2.1 g1.1
  · rw [hlog]; exact g1.own ol (fun b hb hm => n3 b hm b (List.mem_append_left _ hb) rfl)
  · exact ⟨Nat.le_trans hs.1 g1.1, fun b B hb hB => g1.2.1 b B (fun hm => hb (List.mem_append_left _ hm)) (hs.2 b B hB), fun b hb => .inl hb, hn⟩
theorem l11Data_ok (W0 : World) (vc vj vt vl : AV) (cj : List AV) (w : WorldD) (t : Nat) (j : JobD) (S : List Nat) (H : AH) (hp : SpP H S w j t vc vj vt vl cj) (hd : DataP w j) :
    ACalls Tryz.prog W0 231 [.agg (wcs vc vj vt vl w), .v (.int .i64 t), .agg cj] H (SpR H S vj vt (dataD w t j)) := by
  refine acallw Tryz.func231 rfl (by kernel_rfl) (by kernel_rfl) fun hc hw => ?_
  have hp0 := hp
  have hll := hp.ll
  obtain ⟨hs, hl, hj, ht, hnw, htt⟩ := hp
  have hs0 := hs
  obtain ⟨hn, Sc, Sl, Sj, rfl, oc, ol, oj⟩ := hs
  obtain ⟨vk, vr, Sk, Sr, rfl, rfl, f0, f1, f2, f3, f4, f5, f6, f7, f8, f9, f10, f11, f12, f13, f14, f15, f16⟩ := oj
  have lc := oc.leaf; have cc := oc.one
  have ll := ol.leaf; have cl := ol.one
  have lk := f15.leaf; have ck := f15.one
  have lr := f16.leaf; have cr := f16.one
  have hnS : ∀ b ∈ Sc ++ (Sl ++ (Sk ++ Sr)), b < H.nxt := fun b hb => hw.lt' (hs0.isin b hb)
  obtain ⟨lj, cj⟩ := hj
  obtain ⟨lt, ct⟩ := ht
  simp only [wcs]
  obtain ⟨hok, he, hslot, hval⟩ := hd
  obtain ⟨hb1, hb2, hb3, hb4⟩ := DataP.base ⟨hok, he, hslot, hval⟩
  have hlen := cellsOk_len hok
  have et : j.e.tmod 2 = j.e % 2 := Int.tmod_eq_emod_of_nonneg he.1
  have ett : (t : Int).tmod 2 = ((t % 2 : Nat) : Int) := by rw [Int.tmod_eq_emod_of_nonneg (by omega)]; omega
  have n1 := (List.nodup_append.1 hn).1
  have hnc : ∀ b ∈ Sc, b < H.nxt := fun b hb => hnS b (List.mem_append_left _ hb)
  have oj0 : Own.own H (Sk ++ Sr) _ j := ⟨vk, vr, Sk, Sr, rfl, rfl, f0, f1, f2, f3, f4, f5, f6, f7, f8, f9, f10, f11, f12, f13, f14, f15, f16⟩
  have hcg := fun i => cellsOk_get hok i
  unfold wordP at hcg
  have hg2 := hcg (baseD j + 2)
  have hg4 := hcg (baseD j + 4)
  rw [show w.cells.getD (baseD j + 2) 0 = cget w (baseD j + 2) from rfl] at hg2
  rw [show w.cells.getD (baseD j + 4) 0 = cget w (baseD j + 4) from rfl] at hg4
  by_cases e1 : j.what = 1
  · have d1 : decide (j.what = 1) = true := decide_eq_true e1
    repeat' (first | simp -implicitDefEqProofs only [go_sem] | (simp -implicitDefEqProofs only [lc, cc, ll, cl, lk, ck, lr, cr, lj, cj, lt, ct, wr_succ, wr_zero, wr_none, set_set, Bool.and_self, d1, et, ett, if_true, if_false, Bool.false_eq_true]) | (refine ACallK.eq (StripeCell_spec _ _ _ _ _) ?_; rw [stripeC, if_pos (by omega)]) | ((with_reducible refine adraw_plan [(0, []), (1, []), (2, []), (3, []), (4, []), (5, []), (7, []), (8, []), (9, []), (6, [0, 7, 8, 9]), (10, []), (11, []), (12, []), (13, []), (14, [13])] ?_ ?_ ?_); (· kernel_rfl); (· decide +kernel)))
    refine ACallK.addr (w' := cadd w (slotBase (j.e % 2) j.slot + ((t % 2 : Nat) : Int)).toNat j.op.val) (H0 := H) (l11Add_ok _ vc vj vt vl w (slotBase (j.e % 2) j.slot + ((t % 2 : Nat) : Int)) j.op.val Sc _ (oc.sub (by exact by repeat (first | exact Sub.refl _ | assumption | refine Sub.new hc.1 ?_ _ _ | refine Sub.set hc.1 ?_ (by omega) _ | refine Sub.trans ?_ (by assumption)))) n1 ⟨lj, cj⟩ ⟨lt, ct⟩ ⟨ll, cl⟩ hok (by omega) (by omega)) rfl hw (by exact by repeat (first | exact Sub.refl _ | assumption | refine Sub.new hc.1 ?_ _ _ | refine Sub.set hc.1 ?_ (by omega) _ | refine Sub.trans ?_ (by assumption))) hn (ol.sub (by exact by repeat (first | exact Sub.refl _ | assumption | refine Sub.new hc.1 ?_ _ _ | refine Sub.set hc.1 ?_ (by omega) _ | refine Sub.trans ?_ (by assumption)))) (Own.sub oj0 (by exact by repeat (first | exact Sub.refl _ | assumption | refine Sub.new hc.1 ?_ _ _ | refine Sub.set hc.1 ?_ (by omega) _ | refine Sub.trans ?_ (by assumption)))) ?_
    intro H1 w1 hs1 g1 kq m1
    simp only [wcs]
    have ei : (slotBase (j.e % 2) j.slot + ((t % 2 : Nat) : Int)).toNat = baseD j + t % 2 := by omega
    rw [ei] at hs1
    simp only [go_sem] at m1
    have a0 := kq H.nxt _ (fun hm => by have := hnc _ hm; omega) (by simp only [go_sem]; rfl)
    have a1 := kq (H.nxt + 1) _ (fun hm => by have := hnc _ hm; omega) (by simp only [go_sem]; rfl)
    have a2 := kq (H.nxt + 2) _ (fun hm => by have := hnc _ hm; omega) (by simp only [go_sem]; rfl)
    have a3 := kq (H.nxt + 3) _ (fun hm => by have := hnc _ hm; omega) (by simp only [go_sem]; rfl)
    repeat' (first | simp -implicitDefEqProofs only [go_sem] | (simp -implicitDefEqProofs only [a0, a1, refl_set a0, lc, cc, ll, cl, lk, ck, lr, cr, lj, cj, lt, ct, wr_succ, wr_zero, wr_none, set_set, Bool.and_self]))
    refine ACallK.spr (H0 := H1) (l11Point_ok _ vc vj vt vl _ (cadd w (baseD j + t % 2) j.op.val) t j 0 j.e _ _ hs1 hll ⟨lj, cj⟩ ⟨lt, ct⟩ ⟨by simp only [inI64]; omega, f9, hnw, by simp only [inI64]; omega⟩) w1 (Sub.refl _) (fun b hb => w1.lt' (hs1.isin b hb)) ?_
    intro vc2 vl2 cj2 H2 S2 w2 hs2 g2 kq m2 hS2
    have hs20 := hs2
    obtain ⟨hn2, Sc2, Sl2, Sj2, rfl, oc2, ol2, oj2⟩ := hs2
    obtain ⟨vk2, vr2, Sk2, Sr2, rfl, rfl, f_20, f_21, f_22, f_23, f_24, f_25, f_26, f_27, f_28, f_29, f_210, f_211, f_212, f_213, f_214, f_215, f_216⟩ := oj2
    have lc2 := oc2.leaf; have cc2 := oc2.one
    have ll2 := ol2.leaf; have cl2 := ol2.one
    have lk2 := f_215.leaf; have ck2 := f_215.one
    have lr2 := f_216.leaf; have cr2 := f_216.one
    simp only [wcs]
    have c0 := kq H.nxt _ (fun hm => by have := hnS _ hm; omega) a0
    have c1 := kq (H.nxt + 1) _ (fun hm => by have := hnS _ hm; omega) a1
    have c2 := kq (H.nxt + 2) _ (fun hm => by have := hnS _ hm; omega) a2
    have c3 := kq (H.nxt + 3) _ (fun hm => by have := hnS _ hm; omega) a3
    repeat' (first | simp -implicitDefEqProofs only [go_sem] | (simp -implicitDefEqProofs only [c0, c1, c2, c3, lc2, cc2, ll2, cl2, lk2, ck2, lr2, cr2, lj, cj, lt, ct, wr_succ, wr_zero, wr_none, set_set, blk_set_self, Bool.and_self]) | simp -implicitDefEqProofs (disch := omega) only [wrap_in, u8_small, Int.tmod_eq_emod_of_nonneg, Int.tdiv_eq_ediv_of_nonneg] | ((with_reducible refine adraw_plan [(0, []), (1, []), (2, [1]), (3, [])] ?_ ?_ ?_); (· kernel_rfl); (· decide +kernel)))
    have g4 := g1.trans hw g2
    rw [show dataD w t j = ((pointD (cadd w (baseD j + t % 2) j.op.val) t j 0 j.e).1, { j with code := 0, pc := 9 }) by unfold dataD; rw [if_pos e1]]
    refine retK_two (SpR.fin (p := ((pointD (cadd w (baseD j + t % 2) j.op.val) t j 0 j.e).1, { j with code := 0, pc := 9 })) hw g4 ⟨hn2, Sc2, Sl2, Sk2 ++ Sr2, rfl, oc2, ol2, vk2, vr2, Sk2, Sr2, rfl, rfl, f_20, f_21, f_22, f_23, f_24, (by simp only [inI64]; omega), f_26, f_27, f_28, f_29, f_210, f_211, f_212, f_213, f_214, f_215, f_216⟩ (fun b hb => ?_) (fun b hb => ?_) (Nat.le_refl _))
    · rcases g2.2.2.1 b hb with h | h
      · exact .inl (hnS b h)
      · omega
    · simp only [blk_set, (show ¬ b = H.nxt by omega), (show ¬ b = H.nxt + 1 by omega), (show ¬ b = H.nxt + 2 by omega), (show ¬ b = H.nxt + 3 by omega), if_false]
  · have d1 : decide (j.what = 1) = false := decide_eq_false e1
    by_cases e2 : j.what = 2
    · have d2 : decide (j.what = 2) = true := decide_eq_true e2
      repeat' (first | simp -implicitDefEqProofs only [go_sem] | (simp -implicitDefEqProofs only [lc, cc, ll, cl, lk, ck, lr, cr, lj, cj, lt, ct, wr_succ, wr_zero, wr_none, set_set, Bool.and_self, d1, d2, et, ett, if_true, if_false, Bool.false_eq_true]) | (refine ACallK.eq (StampCell_spec _ _ _ _) ?_; rw [cellC, if_pos (by omega)]) | ((with_reducible refine adraw_plan [(0, []), (1, []), (2, []), (3, []), (4, [0]), (5, []), (6, []), (7, []), (8, []), (9, [8]), (10, [])] ?_ ?_ ?_); (· kernel_rfl); (· decide +kernel)))
      refine ACallK.addr (w' := cadd w (slotBase (j.e % 2) j.slot + 2).toNat 1) (H0 := H) (l11Add_ok _ vc vj vt vl w (slotBase (j.e % 2) j.slot + 2) 1 Sc _ (oc.sub (by exact by repeat (first | exact Sub.refl _ | assumption | refine Sub.new hc.1 ?_ _ _ | refine Sub.set hc.1 ?_ (by omega) _ | refine Sub.trans ?_ (by assumption)))) n1 ⟨lj, cj⟩ ⟨lt, ct⟩ ⟨ll, cl⟩ hok (by omega) (by omega)) rfl hw (by exact by repeat (first | exact Sub.refl _ | assumption | refine Sub.new hc.1 ?_ _ _ | refine Sub.set hc.1 ?_ (by omega) _ | refine Sub.trans ?_ (by assumption))) hn (ol.sub (by exact by repeat (first | exact Sub.refl _ | assumption | refine Sub.new hc.1 ?_ _ _ | refine Sub.set hc.1 ?_ (by omega) _ | refine Sub.trans ?_ (by assumption)))) (Own.sub oj0 (by exact by repeat (first | exact Sub.refl _ | assumption | refine Sub.new hc.1 ?_ _ _ | refine Sub.set hc.1 ?_ (by omega) _ | refine Sub.trans ?_ (by assumption)))) ?_
      intro H1 w1 hs1 g1 kq m1
      simp only [wcs]
      have ei : (slotBase (j.e % 2) j.slot + 2).toNat = baseD j + 2 := by omega
      rw [ei] at hs1
      simp only [go_sem] at m1
      have a0 := kq H.nxt _ (fun hm => by have := hnc _ hm; omega) (by simp only [go_sem]; rfl)
      have a1 := kq (H.nxt + 1) _ (fun hm => by have := hnc _ hm; omega) (by simp only [go_sem]; rfl)
      have a2 := kq (H.nxt + 2) _ (fun hm => by have := hnc _ hm; omega) (by simp only [go_sem]; rfl)
      have a3 := kq (H.nxt + 3) _ (fun hm => by have := hnc _ hm; omega) (by simp only [go_sem]; rfl)
      rw [ei]
      repeat' (first | simp -implicitDefEqProofs only [go_sem] | (simp -implicitDefEqProofs only [a0, a1, refl_set a0, lc, cc, ll, cl, lk, ck, lr, cr, lj, cj, lt, ct, wr_succ, wr_zero, wr_none, set_set, Bool.and_self]))
      refine ACallK.spr (H0 := H1) (l11Point_ok _ vc vj vt vl _ (cadd w (baseD j + 2) 1) t j 0 j.e _ _ hs1 hll ⟨lj, cj⟩ ⟨lt, ct⟩ ⟨by simp only [inI64]; omega, f9, hnw, by simp only [inI64]; omega⟩) w1 (Sub.refl _) (fun b hb => w1.lt' (hs1.isin b hb)) ?_
      intro vc2 vl2 cj2 H2 S2 w2 hs2 g2 kq m2 hS2
      have hs20 := hs2
      obtain ⟨hn2, Sc2, Sl2, Sj2, rfl, oc2, ol2, oj2⟩ := hs2
      obtain ⟨vk2, vr2, Sk2, Sr2, rfl, rfl, f_20, f_21, f_22, f_23, f_24, f_25, f_26, f_27, f_28, f_29, f_210, f_211, f_212, f_213, f_214, f_215, f_216⟩ := oj2
      have lc2 := oc2.leaf; have cc2 := oc2.one
      have ll2 := ol2.leaf; have cl2 := ol2.one
      have lk2 := f_215.leaf; have ck2 := f_215.one
      have lr2 := f_216.leaf; have cr2 := f_216.one
      simp only [wcs]
      have c0 := kq H.nxt _ (fun hm => by have := hnS _ hm; omega) a0
      have c1 := kq (H.nxt + 1) _ (fun hm => by have := hnS _ hm; omega) a1
      have c2 := kq (H.nxt + 2) _ (fun hm => by have := hnS _ hm; omega) a2
      have c3 := kq (H.nxt + 3) _ (fun hm => by have := hnS _ hm; omega) a3
      repeat' (first | simp -implicitDefEqProofs only [go_sem] | (simp -implicitDefEqProofs only [c0, c1, c2, c3, lc2, cc2, ll2, cl2, lk2, ck2, lr2, cr2, lj, cj, lt, ct, wr_succ, wr_zero, wr_none, set_set, blk_set_self, Bool.and_self]) | (simp -implicitDefEqProofs (disch := omega) only [wrap_in]) | (refine ACallK.eq (l2Mod_ok _ _ _ (by simp only [inI64]; omega)) ?_) | ((with_reducible refine adraw_plan [(0, []), (1, []), (2, [1]), (3, [])] ?_ ?_ ?_); (· kernel_rfl); (· decide +kernel)))
      have g4 := g1.trans hw g2
      rw [show dataD w t j = ((pointD (cadd w (baseD j + 2) 1) t j 0 j.e).1, { j with code := 0, stamp := (cget w (baseD j + 2) + 1) % 281474976710656, pc := 6 }) by unfold dataD; rw [if_neg e1, if_pos e2]]
      refine retK_two (SpR.fin (p := ((pointD (cadd w (baseD j + 2) 1) t j 0 j.e).1, { j with code := 0, stamp := (cget w (baseD j + 2) + 1) % 281474976710656, pc := 6 })) hw g4 ⟨hn2, Sc2, Sl2, Sk2 ++ Sr2, rfl, oc2, ol2, vk2, vr2, Sk2, Sr2, rfl, rfl, f_20, f_21, f_22, f_23, f_24, (by simp only [inI64]; omega), f_26, f_27, f_28, f_29, (by simp only [inI64]; omega), f_211, f_212, f_213, f_214, f_215, f_216⟩ (fun b hb => ?_) (fun b hb => ?_) (Nat.le_refl _))
      · rcases g2.2.2.1 b hb with h | h
        · exact .inl (hnS b h)
        · omega
      · simp only [blk_set, (show ¬ b = H.nxt by omega), (show ¬ b = H.nxt + 1 by omega), (show ¬ b = H.nxt + 2 by omega), (show ¬ b = H.nxt + 3 by omega), if_false]
    · have d2 : decide (j.what = 2) = false := decide_eq_false e2
      by_cases e3 : 3 ≤ cget w (baseD j + 4)
      · have d3 : decide (cget w (baseD j + 4) ≥ 3) = true := decide_eq_true e3
        repeat' (first | simp -implicitDefEqProofs only [go_sem] | (simp -implicitDefEqProofs only [lc, cc, ll, cl, lk, ck, lr, cr, lj, cj, lt, ct, wr_succ, wr_zero, wr_none, set_set, Bool.and_self, d1, d2, d3, et, ett, if_true, if_false, Bool.false_eq_true]) | (refine ACallK.eq (TicketCell_spec _ _ _ _) ?_; rw [cellC, if_pos (by omega)]) | ((with_reducible refine adraw_plan [(0, []), (1, []), (2, []), (3, []), (4, [0]), (5, []), (6, []), (7, []), (8, []), (9, [8]), (10, [])] ?_ ?_ ?_); (· kernel_rfl); (· decide +kernel)))
        refine ACallK.addr (w' := cadd w (slotBase (j.e % 2) j.slot + 4).toNat 1) (H0 := H) (l11Add_ok _ vc vj vt vl w (slotBase (j.e % 2) j.slot + 4) 1 Sc _ (oc.sub (by exact by repeat (first | exact Sub.refl _ | assumption | refine Sub.new hc.1 ?_ _ _ | refine Sub.set hc.1 ?_ (by omega) _ | refine Sub.trans ?_ (by assumption)))) n1 ⟨lj, cj⟩ ⟨lt, ct⟩ ⟨ll, cl⟩ hok (by omega) (by omega)) rfl hw (by exact by repeat (first | exact Sub.refl _ | assumption | refine Sub.new hc.1 ?_ _ _ | refine Sub.set hc.1 ?_ (by omega) _ | refine Sub.trans ?_ (by assumption))) hn (ol.sub (by exact by repeat (first | exact Sub.refl _ | assumption | refine Sub.new hc.1 ?_ _ _ | refine Sub.set hc.1 ?_ (by omega) _ | refine Sub.trans ?_ (by assumption)))) (Own.sub oj0 (by exact by repeat (first | exact Sub.refl _ | assumption | refine Sub.new hc.1 ?_ _ _ | refine Sub.set hc.1 ?_ (by omega) _ | refine Sub.trans ?_ (by assumption)))) ?_
        intro H1 w1 hs1 g1 kq m1
        simp only [wcs]
        have ei : (slotBase (j.e % 2) j.slot + 4).toNat = baseD j + 4 := by omega
        rw [ei] at hs1
        simp only [go_sem] at m1
        have a0 := kq H.nxt _ (fun hm => by have := hnc _ hm; omega) (by simp only [go_sem]; rfl)
        have a1 := kq (H.nxt + 1) _ (fun hm => by have := hnc _ hm; omega) (by simp only [go_sem]; rfl)
        have a2 := kq (H.nxt + 2) _ (fun hm => by have := hnc _ hm; omega) (by simp only [go_sem]; rfl)
        have a3 := kq (H.nxt + 3) _ (fun hm => by have := hnc _ hm; omega) (by simp only [go_sem]; rfl)
        rw [ei]
        repeat' (first | simp -implicitDefEqProofs only [go_sem] | (simp -implicitDefEqProofs only [a0, a1, refl_set a0, lc, cc, ll, cl, lk, ck, lr, cr, lj, cj, lt, ct, wr_succ, wr_zero, wr_none, set_set, Bool.and_self, d3]))
        refine ACallK.spr (H0 := H1) (l11Point_ok _ vc vj vt vl _ (cadd w (baseD j + 4) 1) t j 5 j.e _ _ hs1 hll ⟨lj, cj⟩ ⟨lt, ct⟩ ⟨by simp only [inI64]; omega, f9, hnw, by simp only [inI64]; omega⟩) w1 (Sub.refl _) (fun b hb => w1.lt' (hs1.isin b hb)) ?_
        intro vc2 vl2 cj2 H2 S2 w2 hs2 g2 kq m2 hS2
        have hs20 := hs2
        obtain ⟨hn2, Sc2, Sl2, Sj2, rfl, oc2, ol2, oj2⟩ := hs2
        obtain ⟨vk2, vr2, Sk2, Sr2, rfl, rfl, f_20, f_21, f_22, f_23, f_24, f_25, f_26, f_27, f_28, f_29, f_210, f_211, f_212, f_213, f_214, f_215, f_216⟩ := oj2
        have lc2 := oc2.leaf; have cc2 := oc2.one
        have ll2 := ol2.leaf; have cl2 := ol2.one
        have lk2 := f_215.leaf; have ck2 := f_215.one
        have lr2 := f_216.leaf; have cr2 := f_216.one
        simp only [wcs]
        have c0 := kq H.nxt _ (fun hm => by have := hnS _ hm; omega) a0
        have c1 := kq (H.nxt + 1) _ (fun hm => by have := hnS _ hm; omega) a1
        have c2 := kq (H.nxt + 2) _ (fun hm => by have := hnS _ hm; omega) a2
        have c3 := kq (H.nxt + 3) _ (fun hm => by have := hnS _ hm; omega) a3
        repeat' (first | simp -implicitDefEqProofs only [go_sem] | (simp -implicitDefEqProofs only [c0, c1, c2, c3, lc2, cc2, ll2, cl2, lk2, ck2, lr2, cr2, lj, cj, lt, ct, wr_succ, wr_zero, wr_none, set_set, blk_set_self, Bool.and_self, d3]) | ((with_reducible refine adraw_plan [(0, []), (1, []), (2, [1]), (3, [])] ?_ ?_ ?_); (· kernel_rfl); (· decide +kernel)))
        have g4 := g1.trans hw g2
        rw [show dataD w t j = ((pointD (cadd w (baseD j + 4) 1) t j 5 j.e).1, { j with code := 5, pc := 9 }) by unfold dataD; rw [if_neg e1, if_neg e2, if_pos e3]]
        refine retK_two (SpR.fin (p := ((pointD (cadd w (baseD j + 4) 1) t j 5 j.e).1, { j with code := 5, pc := 9 })) hw g4 ⟨hn2, Sc2, Sl2, Sk2 ++ Sr2, rfl, oc2, ol2, vk2, vr2, Sk2, Sr2, rfl, rfl, f_20, f_21, f_22, f_23, f_24, (by simp only [inI64]; omega), f_26, f_27, f_28, f_29, f_210, f_211, f_212, f_213, f_214, f_215, f_216⟩ (fun b hb => ?_) (fun b hb => ?_) (Nat.le_refl _))
        · rcases g2.2.2.1 b hb with h | h
          · exact .inl (hnS b h)
          · omega
        · simp only [blk_set, (show ¬ b = H.nxt by omega), (show ¬ b = H.nxt + 1 by omega), (show ¬ b = H.nxt + 2 by omega), (show ¬ b = H.nxt + 3 by omega), if_false]
      · have d3 : decide (cget w (baseD j + 4) ≥ 3) = false := decide_eq_false e3
        repeat' (first | simp -implicitDefEqProofs only [go_sem] | (simp -implicitDefEqProofs only [lc, cc, ll, cl, lk, ck, lr, cr, lj, cj, lt, ct, wr_succ, wr_zero, wr_none, set_set, Bool.and_self, d1, d2, d3, et, ett, if_true, if_false, Bool.false_eq_true]) | (refine ACallK.eq (TicketCell_spec _ _ _ _) ?_; rw [cellC, if_pos (by omega)]) | ((with_reducible refine adraw_plan [(0, []), (1, []), (2, []), (3, []), (4, [0]), (5, []), (6, []), (7, []), (8, []), (9, [8]), (10, [])] ?_ ?_ ?_); (· kernel_rfl); (· decide +kernel)))
        refine ACallK.addr (w' := cadd w (slotBase (j.e % 2) j.slot + 4).toNat 1) (H0 := H) (l11Add_ok _ vc vj vt vl w (slotBase (j.e % 2) j.slot + 4) 1 Sc _ (oc.sub (by exact by repeat (first | exact Sub.refl _ | assumption | refine Sub.new hc.1 ?_ _ _ | refine Sub.set hc.1 ?_ (by omega) _ | refine Sub.trans ?_ (by assumption)))) n1 ⟨lj, cj⟩ ⟨lt, ct⟩ ⟨ll, cl⟩ hok (by omega) (by omega)) rfl hw (by exact by repeat (first | exact Sub.refl _ | assumption | refine Sub.new hc.1 ?_ _ _ | refine Sub.set hc.1 ?_ (by omega) _ | refine Sub.trans ?_ (by assumption))) hn (ol.sub (by exact by repeat (first | exact Sub.refl _ | assumption | refine Sub.new hc.1 ?_ _ _ | refine Sub.set hc.1 ?_ (by omega) _ | refine Sub.trans ?_ (by assumption)))) (Own.sub oj0 (by exact by repeat (first | exact Sub.refl _ | assumption | refine Sub.new hc.1 ?_ _ _ | refine Sub.set hc.1 ?_ (by omega) _ | refine Sub.trans ?_ (by assumption)))) ?_
        intro H1 w1 hs1 g1 kq m1
        simp only [wcs]
        have ei : (slotBase (j.e % 2) j.slot + 4).toNat = baseD j + 4 := by omega
        rw [ei] at hs1
        simp only [go_sem] at m1
        have a0 := kq H.nxt _ (fun hm => by have := hnc _ hm; omega) (by simp only [go_sem]; rfl)
        have a1 := kq (H.nxt + 1) _ (fun hm => by have := hnc _ hm; omega) (by simp only [go_sem]; rfl)
        have a2 := kq (H.nxt + 2) _ (fun hm => by have := hnc _ hm; omega) (by simp only [go_sem]; rfl)
        have a3 := kq (H.nxt + 3) _ (fun hm => by have := hnc _ hm; omega) (by simp only [go_sem]; rfl)
        rw [ei]
        repeat' (first | simp -implicitDefEqProofs only [go_sem] | (simp -implicitDefEqProofs only [a0, a1, refl_set a0, lc, cc, ll, cl, lk, ck, lr, cr, lj, cj, lt, ct, wr_succ, wr_zero, wr_none, set_set, Bool.and_self, d3]))
        refine ACallK.spr (H0 := H1) (l11Point_ok _ vc vj vt vl _ (cadd w (baseD j + 4) 1) t j 0 j.e _ _ hs1 hll ⟨lj, cj⟩ ⟨lt, ct⟩ ⟨by simp only [inI64]; omega, f9, hnw, by simp only [inI64]; omega⟩) w1 (Sub.refl _) (fun b hb => w1.lt' (hs1.isin b hb)) ?_
        intro vc2 vl2 cj2 H2 S2 w2 hs2 g2 kq m2 hS2
        have hs20 := hs2
        obtain ⟨hn2, Sc2, Sl2, Sj2, rfl, oc2, ol2, oj2⟩ := hs2
        obtain ⟨vk2, vr2, Sk2, Sr2, rfl, rfl, f_20, f_21, f_22, f_23, f_24, f_25, f_26, f_27, f_28, f_29, f_210, f_211, f_212, f_213, f_214, f_215, f_216⟩ := oj2
        have lc2 := oc2.leaf; have cc2 := oc2.one
        have ll2 := ol2.leaf; have cl2 := ol2.one
        have lk2 := f_215.leaf; have ck2 := f_215.one
        have lr2 := f_216.leaf; have cr2 := f_216.one
        simp only [wcs]
        have c0 := kq H.nxt _ (fun hm => by have := hnS _ hm; omega) a0
        have c1 := kq (H.nxt + 1) _ (fun hm => by have := hnS _ hm; omega) a1
        have c2 := kq (H.nxt + 2) _ (fun hm => by have := hnS _ hm; omega) a2
        have c3 := kq (H.nxt + 3) _ (fun hm => by have := hnS _ hm; omega) a3
        repeat' (first | simp -implicitDefEqProofs only [go_sem] | (simp -implicitDefEqProofs only [c0, c1, c2, c3, lc2, cc2, ll2, cl2, lk2, ck2, lr2, cr2, lj, cj, lt, ct, wr_succ, wr_zero, wr_none, set_set, blk_set_self, Bool.and_self, d3]) | ((with_reducible refine adraw_plan [(0, []), (1, []), (2, [1]), (3, [])] ?_ ?_ ?_); (· kernel_rfl); (· decide +kernel)))
        have g4 := g1.trans hw g2
        rw [show dataD w t j = ((pointD (cadd w (baseD j + 4) 1) t j 0 j.e).1, { j with code := 0, k := cget w (baseD j + 4), pc := 8 }) by unfold dataD; rw [if_neg e1, if_neg e2, if_neg e3]]
        refine retK_two (SpR.fin (p := ((pointD (cadd w (baseD j + 4) 1) t j 0 j.e).1, { j with code := 0, k := cget w (baseD j + 4), pc := 8 })) hw g4 ⟨hn2, Sc2, Sl2, Sk2 ++ Sr2, rfl, oc2, ol2, vk2, vr2, Sk2, Sr2, rfl, rfl, f_20, f_21, f_22, f_23, f_24, (by simp only [inI64]; omega), (by simp only [inI64]; omega), f_27, f_28, f_29, f_210, f_211, f_212, f_213, f_214, f_215, f_216⟩ (fun b hb => ?_) (fun b hb => ?_) (Nat.le_refl _))
        · rcases g2.2.2.1 b hb with h | h
          · exact .inl (hnS b h)
          · omega
        · simp only [blk_set, (show ¬ b = H.nxt by omega), (show ¬ b = H.nxt + 1 by omega), (show ¬ b = H.nxt + 2 by omega), (show ¬ b = H.nxt + 3 by omega), if_false]
end Go.Proofs.YtipfnhfcoolhaaaGreat.Aw
end
