/- Parts of a proof: Gs Gt Gu. -/
import Derived.Test.YtipfnhfcoolhaaaGreatK11
import Derived.Test.YtipfnhfcoolhaaaGreatK12
set_option linter.unusedVariables false
set_option linter.unusedSimpArgs false
section
namespace Go.Proofs.YtipfnhfcoolhaaaGreat.Aw
open Go Go.RowKit
set_option maxRecDepth 100000
set_option maxHeartbeats 4000000
attribute [-go_sem] wr_eq
theorem world_putM {H M H3 : AH} {Sc Sl S2 S1 S3 St : List Nat} {b bw t : Nat} {w : WorldD} {r : WorldD × JobD} {vj vt : AV} {pre mid post : List AV} {S4 : List Nat} (hw : H.wf) (w3 : H3.wf) (hnd : (Sc ++ ((b :: (S1 ++ (S2 ++ S3))) ++ (St ++ Sl))).Nodup) (hi : ∀ x ∈ Sc ++ ((b :: (S1 ++ (S2 ++ S3))) ++ (St ++ Sl)), x < H.nxt)
    (hb : H.blk b = some ⟨pre ++ (mid ++ post), 18⟩) (hbw : H.nxt ≤ bw) (hM : H.nxt ≤ M.nxt ∧ ∀ x B, x ≠ b → H.blk x = some B → M.blk x = some B) (m3 : Mv H3 S4 bw b vj vt pre post r.1 r.2) (g3 : Upd (bw :: b :: (Sc ++ (Sl ++ S2))) M H3 S4) (ot : OwnS H St vt w.todo)
    (hj : r.1.jobs = w.jobs) (ht : r.1.todo = w.todo) (is : inI64 r.1.serial) (inw : inI64 r.1.now)
    (put : ∀ (H' : AH) (S2' : List Nat) (mid' : List AV) (y' : JobD), H'.blk b = some ⟨pre ++ (mid' ++ post), 18⟩ → (∀ x ∈ S1 ++ S3, H'.blk x = H.blk x) → Own.own H' S2' mid' y' → OwnS H' (b :: (S1 ++ (S2' ++ S3))) vj (w.jobs.set t y')) (h13 : ∀ x ∈ S1 ++ S3, (H.blk x).isSome = true) :
    ∃ vc vl, H3.blk bw = some ⟨wcs vc vj vt vl r.1, 6⟩ ∧ ((leafA vc = true ∧ cellsA vc = some [vc]) ∧ (leafA vl = true ∧ cellsA vl = some [vl])) ∧ ∀ H', (∀ x, x < H.nxt ∨ x ∈ S4 → H'.blk x = H3.blk x) → H3.nxt ≤ H'.nxt → ∃ S', Own.own H' S' (wcs vc vj vt vl r.1) ({ r.1 with jobs := r.1.jobs.set t r.2 } : WorldD) ∧ Upd (Sc ++ ((b :: (S1 ++ (S2 ++ S3))) ++ (St ++ Sl))) H H' S' := by
  obtain ⟨n4, vc, vl, cj, Sc', Sl', Sj', rfl, bB, jB, oc, ol, oj⟩ := m3
  refine ⟨vc, vl, bB, ⟨⟨oc.leaf, oc.one⟩, ol.leaf, ol.one⟩, fun H' hk hn => ?_⟩
  obtain ⟨n5, n6⟩ := List.nodup_cons.1 n4
  obtain ⟨n7, n8⟩ := List.nodup_cons.1 n6
  have hb0 := hw.lt hb
  have ne : ∀ x ∈ Sc' ++ (Sl' ++ Sj'), x ≠ b := fun x hx h => n7 (h ▸ hx)
  have g : Upd (Sc ++ (Sl ++ S2)) H (H3.set b ⟨pre ++ (mid ++ post), 18⟩) (Sc' ++ (Sl' ++ Sj')) := by
    refine ⟨Nat.le_trans hM.1 g3.1, fun x B hx hB => ?_, fun x hx => ?_, n8⟩
    · by_cases h : x = b
      · subst h; rw [blk_set_self]; rw [← hB, hb]
      · rw [blk_set_ne _ h]
        have := hw.lt hB
        refine g3.2.1 x B (fun hm => ?_) (hM.2 x B h hB)
        rcases List.mem_cons.1 hm with rfl | hm
        · omega
        · exact (List.mem_cons.1 hm).elim h hx
    · rcases g3.2.2.1 x (List.mem_cons_of_mem _ (List.mem_cons_of_mem _ hx)) with h | h
      · rcases List.mem_cons.1 h with h | h
        · exact absurd (List.mem_cons_of_mem _ hx) (h ▸ n5)
        · exact (List.mem_cons.1 h).elim (fun h => absurd h (ne x hx)) .inl
      · exact .inr (Nat.le_trans hM.1 h)
  have hh := world_put (w := w) (w' := r.1) (j' := r.2) (t := t) (H1 := H3.set b ⟨pre ++ (mid ++ post), 18⟩) (H' := H') hnd hi (w3.set (w3.lt jB) _) g (oc.setne (fun x hx => ne x (List.mem_append_left _ hx))) (ol.setne (fun x hx => ne x (List.mem_append_right _ (List.mem_append_left _ hx)))) (Own.eq oj fun x hx => blk_set_ne _ (ne x (List.mem_append_right _ (List.mem_append_right _ hx))) _) ot hw hj ht is inw put h13 ((hk b (.inl hb0)).trans jB) (fun x hx h => by rw [blk_set_ne _ hx]; exact hk x (h.imp id (fun h => List.mem_cons_of_mem _ (List.mem_cons_of_mem _ h)))) hn
  exact ⟨_, hh⟩
theorem StepM_impl (W0 : World) (cs : List AV) (w : WorldD) (t : Nat) (H : AH) (hx : Ob.rep W0 H cs w) (hb : WB w) (hok : worldOk w = true) (ht : t ≤ 3) (hbusy : (jobOf w t).busy = true) (hnow : ¬ w.now = 1000000000) : ACalls Tryz.prog W0 29 [.agg cs, .v (.int .i64 t)] H (fun u H' => NewV H H' u (stepD w t)) := by
  refine acallw Tryz.func29 rfl (by kernel_rfl) (by kernel_rfl) fun hc hw => ?_
  have hx0 := hx
  obtain ⟨xc, xj, xt, xl, rfl, f1, f2, f3, f4, is, inw⟩ := hx0
  have c1 := f1.one; have c2 := f2.one; have c3 := f3.one; have c4 := f4.one
  have p1 := f1.leaf; have p2 := f2.leaf; have p3 := f3.leaf; have p4 := f4.leaf
  obtain ⟨cok, tok, sok, nok, jl, _⟩ := worldOk_iff.1 hok
  have hlt : t < w.jobs.length := by omega
  have ej : jobOf w t = w.jobs[t] := by unfold jobOf; rw [List.getD_eq_getElem?_getD, List.getElem?_eq_getElem hlt]; rfl
  have hjk : jobOk (jobOf w t) = true := by
    have h7 := (worldOk_iff.1 hok).2.2.2.2.2 t hlt
    rw [ej] at hbusy ⊢
    rcases jobAt_iff.1 h7 with h | h
    · rw [h] at hbusy; cases hbusy
    · exact h.2.1
  have hmv := moveD_ok (w := { w with now := w.now + 1 }) (t := t) (j := { jobOf w t with steps := IntKind.i64.wrap ((jobOf w t).steps + 1) }) cok hbusy hjk
  have est : stepD w t = { (moveD { w with now := w.now + 1 } t { jobOf w t with steps := IntKind.i64.wrap ((jobOf w t).steps + 1) }).1 with jobs := (moveD { w with now := w.now + 1 } t { jobOf w t with steps := IntKind.i64.wrap ((jobOf w t).steps + 1) }).1.jobs.set t (moveD { w with now := w.now + 1 } t { jobOf w t with steps := IntKind.i64.wrap ((jobOf w t).steps + 1) }).2 } := by unfold stepD; rw [if_neg hnow, if_pos hbusy]
  have enow : IntKind.i64.wrap (w.now + 1) = w.now + 1 := wrap_in _ (by omega) (by omega)
  have dnow : decide (w.now = 1000000000) = false := decide_eq_false hnow
  have dv : decide (0 ≤ (t : Int) ∧ (t : Int) ≤ 3) = true := decide_eq_true (by omega)
  repeat' (first | simp -implicitDefEqProofs only [go_sem])
  refine ACallK.of (worldCopy_ok _ _ w _ (Ob.sub (by repeat (first | exact Sub.refl _ | assumption | refine Sub.new (by assumption) ?_ _ _ | refine Sub.kill_new (by assumption) ?_ _ _ | refine Sub.trans ?_ (by assumption))) hx) hb).cl ?_
  rintro _ H1 ⟨⟨s1, S0, d1, rfl, o1, F1⟩, k1⟩
  have w1 := k1.1
  have z1 : Sub H H1 := Sub.trans (by repeat (first | exact Sub.refl _ | assumption | refine Sub.new (by assumption) ?_ _ _ | refine Sub.kill_new (by assumption) ?_ _ _ | refine Sub.trans ?_ (by assumption))) s1
  have n1 := s1.1; simp only [go_sem] at n1
  have hF1 := F1.2; simp only [go_sem] at hF1
  have bm := s1.2 H.nxt _ (by simp only [go_sem]; rfl)
  have br := s1.2 (H.nxt + 1) _ (by simp only [go_sem]; rfl)
  have hS := Own.isin o1
  obtain ⟨vc, vj, vt, vl, Sc, Sj, St, Sl, rfl, rfl, oc, oj, ot, ol, -, -⟩ := o1
  obtain ⟨b, oo, pre, mid, post, S1, S2, S3, rfl, hB, hp, hm, rfl, hown, put⟩ := oj.get t hlt
  rw [← ej] at hown
  rw [est]
  generalize hjj : jobOf w t = j at *
  clear est ej
  have hS0 : ∀ x ∈ Sc ++ ((b :: (S1 ++ (S2 ++ S3))) ++ (St ++ Sl)), x < H1.nxt := fun x hx => w1.lt' (hS x hx)
  have h13 : ∀ x ∈ S1 ++ S3, (H1.blk x).isSome = true := fun x hx => hS x (by simp only [List.mem_append, List.mem_cons] at hx ⊢; grind)
  have hb0 : b < H1.nxt := w1.lt hB
  have hbF := hF1 b (by simp)
  have hmid : mid.length = 18 := hm
  have hB0 := hB
  obtain ⟨vk, vr, Sk, Sr, rfl, rfl, f0, f1, f2, f3, f4, f5, f6, f7, f8, f9, f10, f11, f12, f13, f14, f15, f16⟩ := hown
  simp only [Ob.n, List.cons_append, List.nil_append] at hB hp
  have lc := oc.leaf; have cc := oc.one
  have ll := ol.leaf; have cl := ol.one
  have lt := ot.leaf; have ct := ot.one
  have lk := f15.leaf; have ck := f15.one
  have lr := f16.leaf; have cr := f16.one
  have hst : inI64 (IntKind.i64.wrap (j.steps + 1)) := wrap_I _
  have hnw : inI64 (w.now + 1) := by simp only [inI64]; omega
  have y0 : ¬ b = H1.nxt := by omega
  have y1 : ¬ b = H1.nxt + 1 := by omega
  have y0' : ¬ H1.nxt = b := by omega
  have y1' : ¬ H1.nxt + 1 = b := by omega
  have e0 : ¬ H.nxt = H1.nxt := by omega
  have e1 : ¬ H.nxt + 1 = H1.nxt := by omega
  have e2 : ¬ H.nxt + 1 = H1.nxt + 1 := by omega
  have e3 : ¬ H.nxt + 1 = b := by omega
  have e4 : ¬ H.nxt = b := by omega
  repeat' (first | simp -implicitDefEqProofs only [go_sem] | (simp -implicitDefEqProofs (disch := omega) only [bm, br, hB, e0, e1, e2, e3, e4, y0, y1, y0', y1', hbusy, enow, dnow, Int.toNat_natCast, wr_preA hp, wr_pre0 hp, drop_preA hp, drop_pre0 hp, lc, cc, ll, cl, lt, ct, lk, ck, lr, cr, blk_set_self, wr_succ, wr_zero, wr_none, set_set, List.length_append, List.length_cons, Bool.and_self, Bool.not_true, Bool.false_eq_true, if_true, if_false]) | (rw [if_pos (by omega)]) | (refine ACallK.eq (WorldOk_impl _ _ w _ (Ob.sub (z1.trans ((Sub.refl _).new w1 _ _)) hx)) ?_; rw [hok]) | (refine ACallK.eq (within_ok _ _ _ _ _) ?_; rw [dv]) | (with_reducible refine And.intro (by omega) ?_) | fail)
  obtain ⟨mm1, mm2, mm3, mm4⟩ := Upd.nd3 F1.1
  have hU : ∀ x ∈ Sc ++ (Sl ++ (Sk ++ Sr)), x < H1.nxt := fun x hx => hS0 x (by simp only [List.mem_append, List.mem_cons] at hx ⊢; grind)
  obtain ⟨M, hM⟩ : ∃ X, X = ((H1.new [vc, AV.sl b oo w.jobs.length, vt, vl, AV.v (Value.int IntKind.i64 w.serial), AV.v (Value.int IntKind.i64 (w.now + 1))] 6).new [AV.ptr H1.nxt 0, AV.v (Value.int IntKind.i64 t), AV.ptr b (oo + t * 18)] 3).set b ⟨pre ++ ([AV.v (Value.bool true), AV.v (Value.int IntKind.i64 j.op.kind), AV.v (Value.string j.op.key), AV.v (Value.int IntKind.i64 j.op.what), AV.v (Value.int IntKind.i64 j.op.val), AV.v (Value.int IntKind.i64 j.serial), AV.v (Value.int IntKind.i64 j.pc), AV.v (Value.int IntKind.i64 j.k), AV.v (Value.int IntKind.i64 j.slot), AV.v (Value.int IntKind.i64 j.what), AV.v (Value.int IntKind.i64 j.e), AV.v (Value.int IntKind.i64 j.stamp), AV.v (Value.int IntKind.i64 j.old), AV.v (Value.int IntKind.i64 j.flips), AV.v (Value.int IntKind.i64 (IntKind.i64.wrap (j.steps + 1))), AV.v (Value.int IntKind.i64 j.code), vk, vr] ++ post), 18⟩ := ⟨_, rfl⟩
  simp only [List.cons_append, List.nil_append] at hM
  rw [← hM]
  have wM : M.wf := by rw [hM]; exact ((w1.new _ _).new _ _).set (by simp only [nxt_new]; omega) _
  have nM : M.nxt = H1.nxt + 2 := by rw [hM]; rfl
  have bM : M.blk H1.nxt = some ⟨wcs vc (AV.sl b oo w.jobs.length) vt vl { w with now := w.now + 1 }, 6⟩ := by rw [hM]; simp only [blk_set, blk_new, nxt_new, y0', Nat.left_eq_add, Nat.one_ne_zero, if_true, if_false]; first | rfl | (rw [if_neg (by omega)]; rfl)
  have jM : M.blk b = some ⟨pre ++ ([AV.v (Value.bool true), AV.v (Value.int IntKind.i64 j.op.kind), AV.v (Value.string j.op.key), AV.v (Value.int IntKind.i64 j.op.what), AV.v (Value.int IntKind.i64 j.op.val), AV.v (Value.int IntKind.i64 j.serial), AV.v (Value.int IntKind.i64 j.pc), AV.v (Value.int IntKind.i64 j.k), AV.v (Value.int IntKind.i64 j.slot), AV.v (Value.int IntKind.i64 j.what), AV.v (Value.int IntKind.i64 j.e), AV.v (Value.int IntKind.i64 j.stamp), AV.v (Value.int IntKind.i64 j.old), AV.v (Value.int IntKind.i64 j.flips), AV.v (Value.int IntKind.i64 (IntKind.i64.wrap (j.steps + 1))), AV.v (Value.int IntKind.i64 j.code), vk, vr] ++ post), 18⟩ := by rw [hM]; exact blk_set_self _ _ _
  have rM : M.blk (H.nxt + 1) = some ⟨[.v (.slice none 0 0), .v (.slice none 0 0), .v (.slice none 0 0), .v (.slice none 0 0), .v (.int .i64 0), .v (.int .i64 0)], 6⟩ := by rw [hM]; simp only [blk_set, blk_new, nxt_new, e1, e2, e3, if_false]; exact br
  have hMM : H1.nxt ≤ M.nxt ∧ ∀ x B, x ≠ b → H1.blk x = some B → M.blk x = some B := ⟨by omega, fun x B h hB => by
    have := w1.lt hB
    rw [hM]; simp only [blk_set, blk_new, nxt_new, if_neg h, if_neg (show ¬ x = H1.nxt by omega), if_neg (show ¬ x = H1.nxt + 1 by omega)]; exact hB⟩
  have kM : Kp (Sc ++ (Sl ++ (Sk ++ Sr))) H1 M := by rw [hM]; exact by repeat (first | exact Kp.refl _ _ | refine Kp.set ?_ (by assumption) _ | refine Kp.new ?_ (by assumption) _ _)
  clear hM
  have hmvP : Mv M (H1.nxt :: b :: (Sc ++ (Sl ++ (Sk ++ Sr)))) H1.nxt b (AV.sl b oo w.jobs.length) vt pre post { w with now := w.now + 1 } { j with steps := IntKind.i64.wrap (j.steps + 1) } := by
    refine ⟨List.nodup_cons.2 ⟨?_, List.nodup_cons.2 ⟨mm2, mm1⟩⟩, vc, vl, _, Sc, Sl, Sk ++ Sr, rfl, bM, jM, ?_, ?_, ⟨vk, vr, Sk, Sr, rfl, by simp only [hbusy], f0, f1, f2, f3, f4, f5, f6, f7, f8, f9, f10, f11, f12, hst, f14, ?_, ?_⟩⟩
    · intro h
      rcases List.mem_cons.1 h with h | h
      · omega
      · have := hU _ h; omega
    · exact Kp.own oc (fun x hx => List.mem_append_left _ hx) kM
    · exact Kp.own ol (fun x hx => List.mem_append_right _ (List.mem_append_left _ hx)) kM
    · exact Kp.own f15 (fun x hx => List.mem_append_right _ (List.mem_append_right _ (List.mem_append_left _ hx))) kM
    · exact Kp.own f16 (fun x hx => List.mem_append_right _ (List.mem_append_right _ (List.mem_append_right _ hx))) kM
  refine ACallK.mvr (H0 := M) (move_ok W0 H1.nxt b (oo + t * 18) t (AV.sl b oo w.jobs.length) vt pre post { w with now := w.now + 1 } { j with steps := IntKind.i64.wrap (j.steps + 1) } _ M ⟨hmvP, by have := hb.ll; show w.log.length ≤ _; omega, ⟨rfl, rfl⟩, ⟨lt, ct⟩, hnw, ht, hp⟩ cok hjk) wM (Sub.refl _) (fun x hx => wM.lt' (hmvP.isin x hx)) ?_
  intro H3 S4 w3 m3 g3 kq n3 hS4
  obtain ⟨r1, r2, r3, r4⟩ := hmv.1.2
  obtain ⟨vc', vl', bB3, ⟨⟨lc', cc'⟩, ll', cl'⟩, fin⟩ := world_putM (w := w) (t := t) w1 w3 F1.1 hS0 hB0 (Nat.le_refl _) hMM m3 g3 ot r1 r2 (by rw [r3]; exact is) (by rw [r4]; exact hnw) put h13
  have rm : H.nxt + 1 ∉ H1.nxt :: b :: (Sc ++ (Sl ++ (Sk ++ Sr))) := fun h => by
    rcases List.mem_cons.1 h with h | h
    · omega
    · rcases List.mem_cons.1 h with h | h
      · omega
      · have := hF1 (H.nxt + 1) (by simp only [List.mem_append, List.mem_cons] at h ⊢; grind); omega
  have rB := kq _ _ rm rM
  simp only [wcs] at bB3
  repeat' (first | simp -implicitDefEqProofs only [go_sem] | (simp -implicitDefEqProofs (disch := omega) only [bB3, rB, e1, e2, e3, lc', cc', ll', cl', lt, ct, blk_set_self, wr_succ, wr_zero, wr_none, set_set, Bool.and_self, if_true, if_false]))
  obtain ⟨S', o', u'⟩ := fin H3 (fun _ _ => rfl) (Nat.le_refl _)
  obtain ⟨v1, v2⟩ := u'.sub hw z1 (fun x hx => by have := hF1 x hx; omega)
  have v3 : ∀ x ∈ S', H.nxt + 2 ≤ x := fun x hx => by
    rcases u'.2.2.1 x hx with h | h
    · exact hF1 x h
    · omega
  exact retK_one ⟨v1.set hw (Nat.le_succ _) _, S', _, rfl, Own.eq o' (fun x hx => blk_set_ne _ (by have := v3 x hx; omega) _), u'.2.2.2, v2⟩
end Go.Proofs.YtipfnhfcoolhaaaGreat.Aw
end
section
namespace Go.Proofs.YtipfnhfcoolhaaaGreat.Aw
open Go Go.RowKit
set_option maxRecDepth 100000
set_option maxHeartbeats 4000000
attribute [-go_sem] wr_eq
theorem nd_fin {Sc S1 S2 S3 T1 T2 T3 Sl Sc' Sl' Sj' : List Nat} {b b' bw n m : Nat} (h : (Sc ++ ((b :: (S1 ++ (S2 ++ S3))) ++ ((b' :: (T1 ++ (T2 ++ T3))) ++ Sl))).Nodup) (hi : ∀ x ∈ Sc ++ ((b :: (S1 ++ (S2 ++ S3))) ++ ((b' :: (T1 ++ (T2 ++ T3))) ++ Sl)), x < n) (hb : n ≤ bw) (hm : bw < m) (h4 : (bw :: b :: (Sc' ++ (Sl' ++ Sj'))).Nodup) (hm4 : ∀ x ∈ Sc' ++ (Sl' ++ Sj'), x ∈ bw :: b :: (Sc ++ (Sl ++ ([] ++ []))) ∨ m ≤ x) :
    (Sc' ++ ((b :: (S1 ++ (Sj' ++ S3))) ++ ((b' :: (T1 ++ (T2 ++ T3))) ++ Sl'))).Nodup ∧ (∀ x ∈ Sc' ++ ((b :: (S1 ++ (Sj' ++ S3))) ++ ((b' :: (T1 ++ (T2 ++ T3))) ++ Sl')), x ∈ Sc ++ ((b :: (S1 ++ (S2 ++ S3))) ++ ((b' :: (T1 ++ (T2 ++ T3))) ++ Sl)) ∨ n ≤ x) := by
  simp only [List.nodup_append, List.nodup_cons, List.mem_append, List.mem_cons, List.append_nil, List.not_mem_nil, or_false] at h hi h4 hm4
  have k : ∀ x, (x ∈ Sc' ∨ x ∈ Sl' ∨ x ∈ Sj') → x ∈ Sc ∨ x ∈ Sl ∨ m ≤ x := fun x hx => by
    rcases hm4 x hx with (h | h | h | h) | h
    · subst h; exact absurd hx (fun h => h4.1 (.inr h))
    · subst h; exact absurd hx h4.2.1
    · exact .inl h
    · exact .inr (.inl h)
    · exact .inr (.inr h)
  have i : ∀ x, (x ∈ S1 ∨ x ∈ S3 ∨ x ∈ T1 ∨ x ∈ T2 ∨ x ∈ T3 ∨ x = b ∨ x = b') → x < m := fun x hx => by
    have := hi x (by grind); omega
  have d : ∀ x, (x ∈ Sc ∨ x ∈ Sl) → x ∉ S1 ∧ x ∉ S3 ∧ x ∉ T1 ∧ x ∉ T2 ∧ x ∉ T3 ∧ x ≠ b ∧ x ≠ b' := by
    clear hi hm4 k i h4; grind
  have e : ∀ x, (x ∈ Sc' ∨ x ∈ Sl' ∨ x ∈ Sj') → x ∉ S1 ∧ x ∉ S3 ∧ x ∉ T1 ∧ x ∉ T2 ∧ x ∉ T3 ∧ x ≠ b ∧ x ≠ b' := fun x hx => by
    rcases k x hx with h | h | h
    · exact d x (.inl h)
    · exact d x (.inr h)
    · refine ⟨fun hh => ?_, fun hh => ?_, fun hh => ?_, fun hh => ?_, fun hh => ?_, fun hh => ?_, fun hh => ?_⟩ <;> (have := i x (by simp [hh]); omega)
  have n1 : S1.Nodup ∧ S3.Nodup ∧ (∀ x ∈ S1, x ∉ S3) ∧ b ∉ S1 ∧ b ∉ S3 ∧ T1.Nodup ∧ T2.Nodup ∧ T3.Nodup ∧ b' ∉ T1 ∧ b' ∉ T2 ∧ b' ∉ T3 ∧ (∀ x ∈ T2, x ∉ T3) ∧ (∀ x ∈ T1, x ∉ T2 ∧ x ∉ T3) ∧ b ≠ b' ∧ (∀ x, (x = b ∨ x ∈ S1 ∨ x ∈ S3) → x ≠ b' ∧ x ∉ T1 ∧ x ∉ T2 ∧ x ∉ T3) := by
    clear hi hm4 k i h4 d e; grind
  clear h hi d
  simp only [List.nodup_append, List.nodup_cons, List.mem_append, List.mem_cons]
  refine ⟨?_, ?_⟩
  · clear hm4 k i; grind
  · intro x hx
    have hk := k x
    rcases hx with h | (h | h | h | h) | (h | h | h | h) | h
    · have := k x (.inl h); grind
    · grind
    · grind
    · have := k x (.inr (.inr h)); grind
    · grind
    · grind
    · grind
    · grind
    · grind
    · have := k x (.inr (.inl h)); grind
theorem nd_bits {Sc S1 S2 S3 T1 T2 T3 Sl : List Nat} {b b' : Nat} (h : (Sc ++ ((b :: (S1 ++ (S2 ++ S3))) ++ ((b' :: (T1 ++ (T2 ++ T3))) ++ Sl))).Nodup) : b ≠ b' ∧ (b :: (Sc ++ (Sl ++ ([] ++ [])))).Nodup ∧ b' ∉ Sc ++ (Sl ++ ([] ++ [])) ∧ ∀ x, (x ∈ S1 ++ S3 ∨ x ∈ T1 ++ T3 ∨ x ∈ T2) → x ≠ b ∧ x ≠ b' ∧ x ∉ Sc ++ (Sl ++ ([] ++ [])) := by
  simp only [List.nodup_append, List.nodup_cons, List.mem_append, List.mem_cons, List.append_nil, List.not_mem_nil, or_false] at *
  refine ⟨?_, ?_, ?_, ?_⟩ <;> grind
theorem startJ_e (s : Int) (o : OpD) : startJ s o = { job0 with busy := true, op := o, serial := s, pc := if o.kind = 3 then 12 else 0 } := rfl
theorem StepS_impl (W0 : World) (cs : List AV) (w : WorldD) (t : Nat) (H : AH) (hx : Ob.rep W0 H cs w) (hb : WB w) (hok : worldOk w = true) (ht : t ≤ 3) (hbusy : ¬ (jobOf w t).busy = true) (hnow : ¬ w.now = 1000000000) (hops : opsAt w t ≠ []) (hser : ¬ w.serial = 1000000) : ACalls Tryz.prog W0 29 [.agg cs, .v (.int .i64 t)] H (fun u H' => NewV H H' u (startD { w with now := w.now + 1 } t)) := by
  refine acallw Tryz.func29 rfl (by kernel_rfl) (by kernel_rfl) fun hc hw => ?_
  have hx0 := hx
  obtain ⟨xc, xj, xt, xl, rfl, f1, f2, f3, f4, is, inw⟩ := hx0
  have hft := f3
  have c1 := f1.one; have c2 := f2.one; have c3 := f3.one; have c4 := f4.one
  have p1 := f1.leaf; have p2 := f2.leaf; have p3 := f3.leaf; have p4 := f4.leaf
  obtain ⟨cok, tok, sok, nok, jl, _⟩ := worldOk_iff.1 hok
  have tl : w.todo.length = 4 := (todoOk_iff.1 tok).1
  have hltj : t < w.jobs.length := by omega
  have hltt : t < w.todo.length := by omega
  have ej : jobOf w t = w.jobs[t] := by unfold jobOf; rw [List.getD_eq_getElem?_getD, List.getElem?_eq_getElem hltj]; rfl
  have et : opsAt w t = w.todo[t].ops := by unfold opsAt; rw [List.getD_eq_getElem?_getD, List.getElem?_eq_getElem hltt]; rfl
  obtain ⟨o1, os, eo⟩ : ∃ x xs, opsAt w t = x :: xs := List.exists_cons_of_ne_nil hops
  have ol1 : w.todo[t].ops.length = os.length + 1 := by rw [← et, eo]; rfl
  have dol : decide ((((o1 :: os).length : Nat) : Int) = 0) = false := decide_eq_false (by simp only [List.length_cons]; omega)
  have enow : IntKind.i64.wrap (w.now + 1) = w.now + 1 := wrap_in _ (by omega) (by omega)
  have eser : IntKind.i64.wrap (w.serial + 1) = w.serial + 1 := wrap_in _ (by omega) (by omega)
  have dnow : decide (w.now = 1000000000) = false := decide_eq_false hnow
  have dser : decide (w.serial = 1000000) = false := decide_eq_false hser
  have dv : decide (0 ≤ (t : Int) ∧ (t : Int) ≤ 3) = true := decide_eq_true (by omega)
  repeat' (first | simp -implicitDefEqProofs only [go_sem])
  refine ACallK.of (worldCopy_ok _ _ w _ (Ob.sub (by repeat (first | exact Sub.refl _ | assumption | refine Sub.new (by assumption) ?_ _ _ | refine Sub.kill_new (by assumption) ?_ _ _ | refine Sub.trans ?_ (by assumption))) hx) hb).cl ?_
  rintro _ H1 ⟨⟨s1, S0, d1, rfl, o1_, F1⟩, k1⟩
  have w1 := k1.1
  have z1 : Sub H H1 := Sub.trans (by repeat (first | exact Sub.refl _ | assumption | refine Sub.new (by assumption) ?_ _ _ | refine Sub.kill_new (by assumption) ?_ _ _ | refine Sub.trans ?_ (by assumption))) s1
  have n1 := s1.1; simp only [go_sem] at n1
  have hF1 := F1.2; simp only [go_sem] at hF1
  have bm := s1.2 H.nxt _ (by simp only [go_sem]; rfl)
  have br := s1.2 (H.nxt + 1) _ (by simp only [go_sem]; rfl)
  have hS := Own.isin o1_
  obtain ⟨vc, vj, vt, vl, Sc, Sj, St, Sl, rfl, rfl, oc, oj, ot, ol, -, -⟩ := o1_
  obtain ⟨b, oo, pre, mid, post, S1, S2, S3, rfl, hB, hp, hm, rfl, hown, put⟩ := oj.get t hltj
  obtain ⟨b', o', preT, midT, postT, T1, T2, T3, rfl, hBt, hpT, hmT, rfl, hownT, putT⟩ := ot.get t hltt
  obtain ⟨vo, So_, rfl, rfl, oo0⟩ := hownT
  rw [← et, eo] at oo0
  obtain ⟨bo, oq, rfl, rfl⟩ : ∃ bo oq, vo = .sl bo oq (o1 :: os).length ∧ T2 = [bo] := by
    rcases oo0.flat with ⟨-, h, -⟩ | ⟨bo, oq, _, h, _, _, _, h2, _, _⟩
    · cases h
    · exact ⟨bo, oq, h, h2⟩
  have otl := oo0.tail rfl
  obtain ⟨bo2, oq2, preo, mido, posto, U1, U2, U3, hvo, hBo, hpo, hmo, hUo, hown1, -⟩ := oo0.get 0 (by simp)
  injection hvo with h1 h2 h3
  subst h1 h2
  obtain ⟨rfl, rfl, q0, q1, q2, q3⟩ := hown1
  simp only [Ob.n, Nat.zero_mul, Nat.add_zero, List.getElem_cons_zero, List.cons_append, List.nil_append] at hBo hpo q0 q1 q2 q3
  rw [← ej] at hown
  have hbn : (jobOf w t).busy = false := by simpa using hbusy
  generalize hjj : jobOf w t = j at *
  clear ej
  have hS0 : ∀ x ∈ Sc ++ ((b :: (S1 ++ (S2 ++ S3))) ++ ((b' :: (T1 ++ ([bo] ++ T3))) ++ Sl)), x < H1.nxt := fun x hx => w1.lt' (hS x hx)
  obtain ⟨nbb, nd1, nd2, nd3⟩ := nd_bits F1.1
  have hb0 : b < H1.nxt := w1.lt hB
  have hb0' : b' < H1.nxt := w1.lt hBt
  have hbo : bo < H1.nxt := w1.lt hBo
  have hbF := hF1 b (by simp)
  have hbF' := hF1 b' (by simp)
  have hboF := hF1 bo (by simp)
  have hB0 := hB
  obtain ⟨vk, vr, Sk, Sr, rfl, rfl, f0, f1, f2, f3, f4, f5, f6, f7, f8, f9, f10, f11, f12, f13, f14, f15, f16⟩ := hown
  simp only [Ob.n, Nat.mul_one, List.cons_append, List.nil_append] at hB hp hBt hpT
  have lc := oc.leaf; have cc := oc.one
  have ll := ol.leaf; have cl := ol.one
  have lk := f15.leaf; have ck := f15.one
  have lr := f16.leaf; have cr := f16.one
  have x4 : ¬ bo = b := (nd3 bo (.inr (.inr (by simp)))).1
  have x5 : ¬ bo = b' := (nd3 bo (.inr (.inr (by simp)))).2.1
  have nbb0 : ¬ b = b' := nbb
  have nbb' : ¬ b' = b := fun h => nbb h.symm
  have y0 : ¬ b = H1.nxt := by omega
  have y1 : ¬ b = H1.nxt + 1 := by omega
  have z0 : ¬ b' = H1.nxt := by omega
  have zz1 : ¬ b' = H1.nxt + 1 := by omega
  have x0 : ¬ bo = H1.nxt := by omega
  have x1 : ¬ bo = H1.nxt + 1 := by omega
  have y0' : ¬ H1.nxt = b := by omega
  have y1' : ¬ H1.nxt + 1 = b := by omega
  have z0' : ¬ H1.nxt = b' := by omega
  have z1' : ¬ H1.nxt + 1 = b' := by omega
  have e0 : ¬ H.nxt = H1.nxt := by omega
  have e1 : ¬ H.nxt + 1 = H1.nxt := by omega
  have e2 : ¬ H.nxt + 1 = H1.nxt + 1 := by omega
  have e3 : ¬ H.nxt + 1 = b := by omega
  have e4 : ¬ H.nxt = b := by omega
  have e5 : ¬ H.nxt + 1 = b' := by omega
  have e6 : ¬ H.nxt = b' := by omega
  have e7 : ¬ H.nxt = H1.nxt + 1 := by omega
  repeat' (first | simp -implicitDefEqProofs only [go_sem] | (simp -implicitDefEqProofs (disch := omega) only [bm, br, hB, hBt, hBo, e0, e1, e2, e3, e4, e5, e6, e7, y0, y1, z0, zz1, x0, x1, x4, x5, nbb0, nbb', y0', y1', z0', z1', hbn, enow, eser, dnow, dser, dol, Int.toNat_natCast, wr_preA hp, wr_pre0 hp, drop_preA hp, drop_pre0 hp, wr_pre0 hpT, drop_pre0 hpT, drop_pre0 hpo, lc, cc, ll, cl, lk, ck, lr, cr, blk_set_self, wr_succ, wr_zero, wr_none, set_set, List.length_append, List.length_cons, Bool.and_self, Bool.not_true, Bool.not_false, Bool.false_eq_true, if_true, if_false]) | (rw [if_pos (by omega)]) | (refine ACallK.eq (WorldOk_impl _ _ w _ (Ob.sub (z1.trans ((Sub.refl _).new w1 _ _)) hx)) ?_; rw [hok]) | (refine ACallK.eq (within_ok _ _ _ _ _) ?_; rw [dv]) | (refine aixs_sln hft ?_) | (refine aK_slw hft hltt ?_; rintro _ ⟨yo, rfl, hyo⟩; have hyo := (show w.todo[t].ops = o1 :: os from et.symm.trans eo) ▸ hyo) | (refine abi_len_sl' hyo ?_) | (refine aixs_sl hyo ?_ (h1 := by simp only [List.length_cons]; omega)) | (refine aK_slw hyo (by simp only [List.length_cons]; omega) ?_; rintro _ ⟨rfl, -⟩) | (simp -implicitDefEqProofs only [List.getElem_cons_zero]) | refine acond_dec (fun _ => ?_) (fun _ => ?_) | refine agrd_decf (fun _ => ?_) (fun _ => ?_) | refine afa_sl (by assumption) ?_ | ((with_reducible refine adraw_seq ?_ ?_ ?_); (· kernel_rfl); (· decide +kernel)) | (with_reducible refine And.intro (by omega) ?_) | fail)
  all_goals first | (exfalso; omega) | skip
  · skip
    rename_i hk
    have hsj : startJ (w.serial + 1) o1 = { job0 with busy := true, op := o1, serial := w.serial + 1, pc := 12 } := by rw [startJ_e]; simp only [hk, if_true]
    obtain ⟨M, hM⟩ : ∃ X, X = (((H1.new [vc, AV.sl b oo w.jobs.length, AV.sl b' o' w.todo.length, vl, AV.v (Value.int IntKind.i64 (w.serial + 1)), AV.v (Value.int IntKind.i64 (w.now + 1))] 6).new [AV.ptr H1.nxt 0, AV.v (Value.int IntKind.i64 t), AV.ptr b (oo + t * 18)] 3).set b ⟨pre ++ ([AV.v (Value.bool true), AV.v (Value.int IntKind.i64 o1.kind), AV.v (Value.string o1.key), AV.v (Value.int IntKind.i64 o1.what), AV.v (Value.int IntKind.i64 o1.val), AV.v (Value.int IntKind.i64 (w.serial + 1)), AV.v (Value.int IntKind.i64 12), AV.v (Value.int IntKind.i64 0), AV.v (Value.int IntKind.i64 0), AV.v (Value.int IntKind.i64 0), AV.v (Value.int IntKind.i64 0), AV.v (Value.int IntKind.i64 0), AV.v (Value.int IntKind.i64 0), AV.v (Value.int IntKind.i64 0), AV.v (Value.int IntKind.i64 0), AV.v (Value.int IntKind.i64 0), AV.v (Value.slice none 0 0), AV.v (Value.slice none 0 0)] ++ post), 18⟩).set b' ⟨preT ++ ([AV.sl bo (oq + 4) (os.length + 1 - 1)] ++ postT), 1⟩ := ⟨_, rfl⟩
    simp only [List.cons_append, List.nil_append] at hM
    rw [← hM]
    have wM : M.wf := by rw [hM]; exact (((w1.new _ _).new _ _).set (by simp only [nxt_new]; omega) _).set (by simp only [nxt_new, nxt_set]; omega) _
    have nM : M.nxt = H1.nxt + 2 := by rw [hM]; rfl
    have bM : M.blk H1.nxt = some ⟨wcs vc (AV.sl b oo w.jobs.length) (AV.sl b' o' w.todo.length) vl { w with now := w.now + 1, serial := w.serial + 1 }, 6⟩ := by rw [hM]; simp only [blk_set, blk_new, nxt_new, y0', z0', Nat.left_eq_add, Nat.one_ne_zero, if_true, if_false]; first | rfl | (rw [if_neg (by omega)]; rfl)
    have jM : M.blk b = some ⟨pre ++ ([AV.v (Value.bool true), AV.v (Value.int IntKind.i64 o1.kind), AV.v (Value.string o1.key), AV.v (Value.int IntKind.i64 o1.what), AV.v (Value.int IntKind.i64 o1.val), AV.v (Value.int IntKind.i64 (w.serial + 1)), AV.v (Value.int IntKind.i64 12), AV.v (Value.int IntKind.i64 0), AV.v (Value.int IntKind.i64 0), AV.v (Value.int IntKind.i64 0), AV.v (Value.int IntKind.i64 0), AV.v (Value.int IntKind.i64 0), AV.v (Value.int IntKind.i64 0), AV.v (Value.int IntKind.i64 0), AV.v (Value.int IntKind.i64 0), AV.v (Value.int IntKind.i64 0), AV.v (Value.slice none 0 0), AV.v (Value.slice none 0 0)] ++ post), 18⟩ := by rw [hM]; simp only [blk_set, nbb0, if_true, if_false]; rfl
    have tM : M.blk b' = some ⟨preT ++ ([AV.sl bo (oq + 4) (os.length + 1 - 1)] ++ postT), 1⟩ := by rw [hM]; exact blk_set_self _ _ _
    have rM : M.blk (H.nxt + 1) = some ⟨[.v (.slice none 0 0), .v (.slice none 0 0), .v (.slice none 0 0), .v (.slice none 0 0), .v (.int .i64 0), .v (.int .i64 0)], 6⟩ := by rw [hM]; simp only [blk_set, blk_new, nxt_new, e1, e2, e3, e5, if_false]; exact br
    have hMM : ∀ x, x < H1.nxt → x ≠ b → x ≠ b' → M.blk x = H1.blk x := fun x h1 h2 h3 => by
      rw [hM]; simp only [blk_set, blk_new, nxt_new, if_neg h2, if_neg h3, if_neg (show ¬ x = H1.nxt by omega), if_neg (show ¬ x = H1.nxt + 1 by omega)]
    clear hM
    have hU : ∀ x ∈ Sc ++ (Sl ++ ([] ++ [])), x < H1.nxt ∧ x ≠ b ∧ x ≠ b' := fun x hx => ⟨hS0 x (by simp only [List.mem_append, List.mem_cons, List.append_nil] at hx ⊢; grind), fun h => (List.nodup_cons.1 nd1).1 (h ▸ hx), fun h => nd2 (h ▸ hx)⟩
    have hmvP : Mv M (H1.nxt :: b :: (Sc ++ (Sl ++ ([] ++ [])))) H1.nxt b (AV.sl b oo w.jobs.length) (AV.sl b' o' w.todo.length) pre post { w with now := w.now + 1, serial := w.serial + 1 } (startJ (w.serial + 1) o1) := by
      refine ⟨List.nodup_cons.2 ⟨?_, nd1⟩, vc, vl, _, Sc, Sl, [] ++ [], rfl, bM, jM, ?_, ?_, ?_⟩
      · intro h
        rcases List.mem_cons.1 h with h | h
        · omega
        · have := (hU _ h).1; omega
      · exact oc.eq fun x hx => by have := hU x (List.mem_append_left _ hx); exact hMM x this.1 this.2.1 this.2.2
      · exact ol.eq fun x hx => by have := hU x (List.mem_append_right _ (List.mem_append_left _ hx)); exact hMM x this.1 this.2.1 this.2.2
      · rw [hsj]
        exact ⟨_, _, [], [], rfl, rfl, q0, q1, q2, q3, by simp only [inI64]; omega, by simp only [inI64]; omega, inI_z, inI_z, inI_z, inI_z, inI_z, inI_z, inI_z, inI_z, inI_z, ownS_none _, ownS_none _⟩
    have hlog := log_ok W0 H1.nxt b (oo + t * 18) t (AV.sl b oo w.jobs.length) (AV.sl b' o' w.todo.length) pre post { w with now := w.now + 1, serial := w.serial + 1 } (startJ (w.serial + 1) o1) _ [] _ ⟨1, 0, 0, 0, op0, 0, -1, 0, 0, []⟩ M ⟨hmvP, by have := hb.ll; show w.log.length ≤ _; omega, ⟨rfl, rfl⟩, ⟨rfl, rfl⟩, by show inI64 (w.now + 1); simp only [inI64]; omega, ht, hp⟩ (EvD.own_mk (by simp only [inI64]; omega) inI_z inI_z inI_z inI_z (by show (0 : Nat) ≤ big; exact Nat.zero_le _) inI_z inI_z inI_z (by simp only [inI64]; omega) inI_z inI_z (ownS_none _)) (by rw [List.append_nil]; exact hmvP.1)
    rw [List.append_nil] at hlog
    refine ACallK.mvr (H0 := M) hlog wM (Sub.refl _) (fun x hx => wM.lt' (hmvP.isin x hx)) ?_
    intro H3 S4 w3 m3 g3 kq n3 hS4
    obtain ⟨n4, vc', vl', cj', Sc', Sl', Sj', rfl, bB3, jB3, oc3, ol3, oj3⟩ := m3
    have hkeep : ∀ x, (x ∈ S1 ++ S3 ∨ x ∈ T1 ++ T3 ∨ x ∈ [bo]) → H3.blk x = H1.blk x := fun x hx => by
      have h0 : x ∈ Sc ++ ((b :: (S1 ++ ((Sk ++ Sr) ++ S3))) ++ ((b' :: (T1 ++ ([bo] ++ T3))) ++ Sl)) := by simp only [List.mem_append, List.mem_cons] at hx ⊢; grind
      have h1 := hS0 x h0
      have h2 := nd3 x hx
      obtain ⟨B, hBx⟩ := Option.isSome_iff_exists.1 (hS x h0)
      rw [hBx]
      refine kq x B (fun hm => ?_) (by rw [hMM x h1 h2.1 h2.2.1, hBx])
      rcases List.mem_cons.1 hm with h | h
      · omega
      · exact (List.mem_cons.1 h).elim h2.1 h2.2.2
    have t3 := kq b' _ (fun hm => by
      rcases List.mem_cons.1 hm with h | h
      · omega
      · exact (List.mem_cons.1 h).elim nbb' nd2) tM
    have rB := kq _ _ (fun h => by
      rcases List.mem_cons.1 h with h | h
      · omega
      · rcases List.mem_cons.1 h with h | h
        · omega
        · have := hF1 (H.nxt + 1) (by simp only [List.mem_append, List.mem_cons, List.append_nil] at h ⊢; grind); omega) rM
    have lc' := oc3.leaf; have cc' := oc3.one
    have ll' := ol3.leaf; have cl' := ol3.one
    simp only [wcs] at bB3
    repeat' (first | simp -implicitDefEqProofs only [go_sem] | (simp -implicitDefEqProofs (disch := omega) only [bB3, rB, e1, e2, e3, lc', cc', ll', cl', blk_set_self, wr_succ, wr_zero, wr_none, set_set, Bool.and_self, if_true, if_false]))
    obtain ⟨v1, v2⟩ := nd_fin (Sc' := Sc') (Sl' := Sl') (Sj' := Sj') (n := H1.nxt) (m := H1.nxt + 2) F1.1 hS0 (Nat.le_refl _) (by omega) n4 (fun x hx => (g3.2.2.1 x (List.mem_cons_of_mem _ (List.mem_cons_of_mem _ hx))).imp id (fun h => by omega))
    have hown : Own.own H3 (Sc' ++ ((b :: (S1 ++ (Sj' ++ S3))) ++ ((b' :: (T1 ++ ([bo] ++ T3))) ++ Sl'))) [vc', AV.sl b oo w.jobs.length, AV.sl b' o' w.todo.length, vl', AV.v (Value.int IntKind.i64 (w.serial + 1)), AV.v (Value.int IntKind.i64 (w.now + 1))] (startD { w with now := w.now + 1 } t) := by
      refine ⟨vc', .sl b oo w.jobs.length, .sl b' o' w.todo.length, vl', Sc', b :: (S1 ++ (Sj' ++ S3)), b' :: (T1 ++ ([bo] ++ T3)), Sl', rfl, rfl, oc3, ?_, ?_, ?_, by show inI64 (w.serial + 1); simp only [inI64]; omega, by show inI64 (w.now + 1); simp only [inI64]; omega⟩
      · have hj5 := put H3 Sj' cj' (startJ (w.serial + 1) o1) jB3 (fun x hx => hkeep x (.inl hx)) oj3
        have ej5 : (startD { w with now := w.now + 1 } t).jobs = w.jobs.set t (startJ (w.serial + 1) o1) := by
          show w.jobs.set t (startJ (w.serial + 1) ((opsAt { w with now := w.now + 1 } t).headD op0)) = _
          rw [show opsAt { w with now := w.now + 1 } t = o1 :: os from eo]; rfl
        rw [ej5]; exact hj5
      · have hq5 := putT H3 [bo] [.sl bo (oq + 4) (os.length + 1 - 1)] ⟨os⟩ t3 (fun x hx => hkeep x (.inr (.inl hx))) ⟨_, _, rfl, rfl, otl.eq fun x hx => hkeep x (.inr (.inr hx))⟩
        have eq5 : (startD { w with now := w.now + 1 } t).todo = w.todo.set t ⟨os⟩ := by
          show w.todo.set t ⟨(opsAt { w with now := w.now + 1 } t).tail⟩ = _
          rw [show opsAt { w with now := w.now + 1 } t = o1 :: os from eo]; rfl
        rw [eq5]; exact hq5
      · have el : (startD { w with now := w.now + 1 } t).log = w.log ++ [⟨1, t, w.serial + 1, w.now + 1, o1, 0, -1, 0, 0, []⟩] := by
          show w.log ++ [⟨1, t, w.serial + 1, w.now + 1, (opsAt { w with now := w.now + 1 } t).headD op0, 0, -1, 0, 0, []⟩] = _
          rw [show opsAt { w with now := w.now + 1 } t = o1 :: os from eo]; rfl
        rw [el]; exact ol3
    have v3 : ∀ x ∈ Sc' ++ ((b :: (S1 ++ (Sj' ++ S3))) ++ ((b' :: (T1 ++ ([bo] ++ T3))) ++ Sl')), H.nxt + 2 ≤ x := fun x hx => by
      rcases v2 x hx with h | h
      · exact hF1 x h
      · omega
    have vS : Sub H H3 := by
      refine ⟨by have := z1.1; have := g3.1; omega, fun x B hBx => ?_⟩
      have h1 := hw.lt hBx
      have h2 := z1.2 x B hBx
      refine kq x B (fun hm => ?_) (by rw [hMM x (by omega) (by omega) (by omega), h2])
      rcases List.mem_cons.1 hm with h | h
      · omega
      · rcases List.mem_cons.1 h with h | h
        · omega
        · have := hF1 x (by simp only [List.mem_append, List.mem_cons, List.append_nil] at h ⊢; grind); omega
    exact retK_one ⟨vS.set hw (Nat.le_succ _) _, _, _, rfl, Own.eq hown (fun x hx => blk_set_ne _ (by have := v3 x hx; omega) _), v1, fun x hx => by have := v3 x hx; omega⟩
  · skip
    rename_i hk
    have hsj : startJ (w.serial + 1) o1 = { job0 with busy := true, op := o1, serial := w.serial + 1, pc := 0 } := by rw [startJ_e]; simp only [hk, if_false]
    obtain ⟨M, hM⟩ : ∃ X, X = (((H1.new [vc, AV.sl b oo w.jobs.length, AV.sl b' o' w.todo.length, vl, AV.v (Value.int IntKind.i64 (w.serial + 1)), AV.v (Value.int IntKind.i64 (w.now + 1))] 6).new [AV.ptr H1.nxt 0, AV.v (Value.int IntKind.i64 t), AV.ptr b (oo + t * 18)] 3).set b ⟨pre ++ ([AV.v (Value.bool true), AV.v (Value.int IntKind.i64 o1.kind), AV.v (Value.string o1.key), AV.v (Value.int IntKind.i64 o1.what), AV.v (Value.int IntKind.i64 o1.val), AV.v (Value.int IntKind.i64 (w.serial + 1)), AV.v (Value.int IntKind.i64 0), AV.v (Value.int IntKind.i64 0), AV.v (Value.int IntKind.i64 0), AV.v (Value.int IntKind.i64 0), AV.v (Value.int IntKind.i64 0), AV.v (Value.int IntKind.i64 0), AV.v (Value.int IntKind.i64 0), AV.v (Value.int IntKind.i64 0), AV.v (Value.int IntKind.i64 0), AV.v (Value.int IntKind.i64 0), AV.v (Value.slice none 0 0), AV.v (Value.slice none 0 0)] ++ post), 18⟩).set b' ⟨preT ++ ([AV.sl bo (oq + 4) (os.length + 1 - 1)] ++ postT), 1⟩ := ⟨_, rfl⟩
    simp only [List.cons_append, List.nil_append] at hM
    rw [← hM]
    have wM : M.wf := by rw [hM]; exact (((w1.new _ _).new _ _).set (by simp only [nxt_new]; omega) _).set (by simp only [nxt_new, nxt_set]; omega) _
    have nM : M.nxt = H1.nxt + 2 := by rw [hM]; rfl
    have bM : M.blk H1.nxt = some ⟨wcs vc (AV.sl b oo w.jobs.length) (AV.sl b' o' w.todo.length) vl { w with now := w.now + 1, serial := w.serial + 1 }, 6⟩ := by rw [hM]; simp only [blk_set, blk_new, nxt_new, y0', z0', Nat.left_eq_add, Nat.one_ne_zero, if_true, if_false]; first | rfl | (rw [if_neg (by omega)]; rfl)
    have jM : M.blk b = some ⟨pre ++ ([AV.v (Value.bool true), AV.v (Value.int IntKind.i64 o1.kind), AV.v (Value.string o1.key), AV.v (Value.int IntKind.i64 o1.what), AV.v (Value.int IntKind.i64 o1.val), AV.v (Value.int IntKind.i64 (w.serial + 1)), AV.v (Value.int IntKind.i64 0), AV.v (Value.int IntKind.i64 0), AV.v (Value.int IntKind.i64 0), AV.v (Value.int IntKind.i64 0), AV.v (Value.int IntKind.i64 0), AV.v (Value.int IntKind.i64 0), AV.v (Value.int IntKind.i64 0), AV.v (Value.int IntKind.i64 0), AV.v (Value.int IntKind.i64 0), AV.v (Value.int IntKind.i64 0), AV.v (Value.slice none 0 0), AV.v (Value.slice none 0 0)] ++ post), 18⟩ := by rw [hM]; simp only [blk_set, nbb0, if_true, if_false]; rfl
    have tM : M.blk b' = some ⟨preT ++ ([AV.sl bo (oq + 4) (os.length + 1 - 1)] ++ postT), 1⟩ := by rw [hM]; exact blk_set_self _ _ _
    have rM : M.blk (H.nxt + 1) = some ⟨[.v (.slice none 0 0), .v (.slice none 0 0), .v (.slice none 0 0), .v (.slice none 0 0), .v (.int .i64 0), .v (.int .i64 0)], 6⟩ := by rw [hM]; simp only [blk_set, blk_new, nxt_new, e1, e2, e3, e5, if_false]; exact br
    have hMM : ∀ x, x < H1.nxt → x ≠ b → x ≠ b' → M.blk x = H1.blk x := fun x h1 h2 h3 => by
      rw [hM]; simp only [blk_set, blk_new, nxt_new, if_neg h2, if_neg h3, if_neg (show ¬ x = H1.nxt by omega), if_neg (show ¬ x = H1.nxt + 1 by omega)]
    clear hM
    have hU : ∀ x ∈ Sc ++ (Sl ++ ([] ++ [])), x < H1.nxt ∧ x ≠ b ∧ x ≠ b' := fun x hx => ⟨hS0 x (by simp only [List.mem_append, List.mem_cons, List.append_nil] at hx ⊢; grind), fun h => (List.nodup_cons.1 nd1).1 (h ▸ hx), fun h => nd2 (h ▸ hx)⟩
    have hmvP : Mv M (H1.nxt :: b :: (Sc ++ (Sl ++ ([] ++ [])))) H1.nxt b (AV.sl b oo w.jobs.length) (AV.sl b' o' w.todo.length) pre post { w with now := w.now + 1, serial := w.serial + 1 } (startJ (w.serial + 1) o1) := by
      refine ⟨List.nodup_cons.2 ⟨?_, nd1⟩, vc, vl, _, Sc, Sl, [] ++ [], rfl, bM, jM, ?_, ?_, ?_⟩
      · intro h
        rcases List.mem_cons.1 h with h | h
        · omega
        · have := (hU _ h).1; omega
      · exact oc.eq fun x hx => by have := hU x (List.mem_append_left _ hx); exact hMM x this.1 this.2.1 this.2.2
      · exact ol.eq fun x hx => by have := hU x (List.mem_append_right _ (List.mem_append_left _ hx)); exact hMM x this.1 this.2.1 this.2.2
      · rw [hsj]
        exact ⟨_, _, [], [], rfl, rfl, q0, q1, q2, q3, by simp only [inI64]; omega, by simp only [inI64]; omega, inI_z, inI_z, inI_z, inI_z, inI_z, inI_z, inI_z, inI_z, inI_z, ownS_none _, ownS_none _⟩
    have hlog := log_ok W0 H1.nxt b (oo + t * 18) t (AV.sl b oo w.jobs.length) (AV.sl b' o' w.todo.length) pre post { w with now := w.now + 1, serial := w.serial + 1 } (startJ (w.serial + 1) o1) _ [] _ ⟨1, 0, 0, 0, op0, 0, -1, 0, 0, []⟩ M ⟨hmvP, by have := hb.ll; show w.log.length ≤ _; omega, ⟨rfl, rfl⟩, ⟨rfl, rfl⟩, by show inI64 (w.now + 1); simp only [inI64]; omega, ht, hp⟩ (EvD.own_mk (by simp only [inI64]; omega) inI_z inI_z inI_z inI_z (by show (0 : Nat) ≤ big; exact Nat.zero_le _) inI_z inI_z inI_z (by simp only [inI64]; omega) inI_z inI_z (ownS_none _)) (by rw [List.append_nil]; exact hmvP.1)
    rw [List.append_nil] at hlog
    refine ACallK.mvr (H0 := M) hlog wM (Sub.refl _) (fun x hx => wM.lt' (hmvP.isin x hx)) ?_
    intro H3 S4 w3 m3 g3 kq n3 hS4
    obtain ⟨n4, vc', vl', cj', Sc', Sl', Sj', rfl, bB3, jB3, oc3, ol3, oj3⟩ := m3
    have hkeep : ∀ x, (x ∈ S1 ++ S3 ∨ x ∈ T1 ++ T3 ∨ x ∈ [bo]) → H3.blk x = H1.blk x := fun x hx => by
      have h0 : x ∈ Sc ++ ((b :: (S1 ++ ((Sk ++ Sr) ++ S3))) ++ ((b' :: (T1 ++ ([bo] ++ T3))) ++ Sl)) := by simp only [List.mem_append, List.mem_cons] at hx ⊢; grind
      have h1 := hS0 x h0
      have h2 := nd3 x hx
      obtain ⟨B, hBx⟩ := Option.isSome_iff_exists.1 (hS x h0)
      rw [hBx]
      refine kq x B (fun hm => ?_) (by rw [hMM x h1 h2.1 h2.2.1, hBx])
      rcases List.mem_cons.1 hm with h | h
      · omega
      · exact (List.mem_cons.1 h).elim h2.1 h2.2.2
    have t3 := kq b' _ (fun hm => by
      rcases List.mem_cons.1 hm with h | h
      · omega
      · exact (List.mem_cons.1 h).elim nbb' nd2) tM
    have rB := kq _ _ (fun h => by
      rcases List.mem_cons.1 h with h | h
      · omega
      · rcases List.mem_cons.1 h with h | h
        · omega
        · have := hF1 (H.nxt + 1) (by simp only [List.mem_append, List.mem_cons, List.append_nil] at h ⊢; grind); omega) rM
    have lc' := oc3.leaf; have cc' := oc3.one
    have ll' := ol3.leaf; have cl' := ol3.one
    simp only [wcs] at bB3
    repeat' (first | simp -implicitDefEqProofs only [go_sem] | (simp -implicitDefEqProofs (disch := omega) only [bB3, rB, e1, e2, e3, lc', cc', ll', cl', blk_set_self, wr_succ, wr_zero, wr_none, set_set, Bool.and_self, if_true, if_false]))
    obtain ⟨v1, v2⟩ := nd_fin (Sc' := Sc') (Sl' := Sl') (Sj' := Sj') (n := H1.nxt) (m := H1.nxt + 2) F1.1 hS0 (Nat.le_refl _) (by omega) n4 (fun x hx => (g3.2.2.1 x (List.mem_cons_of_mem _ (List.mem_cons_of_mem _ hx))).imp id (fun h => by omega))
    have hown : Own.own H3 (Sc' ++ ((b :: (S1 ++ (Sj' ++ S3))) ++ ((b' :: (T1 ++ ([bo] ++ T3))) ++ Sl'))) [vc', AV.sl b oo w.jobs.length, AV.sl b' o' w.todo.length, vl', AV.v (Value.int IntKind.i64 (w.serial + 1)), AV.v (Value.int IntKind.i64 (w.now + 1))] (startD { w with now := w.now + 1 } t) := by
      refine ⟨vc', .sl b oo w.jobs.length, .sl b' o' w.todo.length, vl', Sc', b :: (S1 ++ (Sj' ++ S3)), b' :: (T1 ++ ([bo] ++ T3)), Sl', rfl, rfl, oc3, ?_, ?_, ?_, by show inI64 (w.serial + 1); simp only [inI64]; omega, by show inI64 (w.now + 1); simp only [inI64]; omega⟩
      · have hj5 := put H3 Sj' cj' (startJ (w.serial + 1) o1) jB3 (fun x hx => hkeep x (.inl hx)) oj3
        have ej5 : (startD { w with now := w.now + 1 } t).jobs = w.jobs.set t (startJ (w.serial + 1) o1) := by
          show w.jobs.set t (startJ (w.serial + 1) ((opsAt { w with now := w.now + 1 } t).headD op0)) = _
          rw [show opsAt { w with now := w.now + 1 } t = o1 :: os from eo]; rfl
        rw [ej5]; exact hj5
      · have hq5 := putT H3 [bo] [.sl bo (oq + 4) (os.length + 1 - 1)] ⟨os⟩ t3 (fun x hx => hkeep x (.inr (.inl hx))) ⟨_, _, rfl, rfl, otl.eq fun x hx => hkeep x (.inr (.inr hx))⟩
        have eq5 : (startD { w with now := w.now + 1 } t).todo = w.todo.set t ⟨os⟩ := by
          show w.todo.set t ⟨(opsAt { w with now := w.now + 1 } t).tail⟩ = _
          rw [show opsAt { w with now := w.now + 1 } t = o1 :: os from eo]; rfl
        rw [eq5]; exact hq5
      · have el : (startD { w with now := w.now + 1 } t).log = w.log ++ [⟨1, t, w.serial + 1, w.now + 1, o1, 0, -1, 0, 0, []⟩] := by
          show w.log ++ [⟨1, t, w.serial + 1, w.now + 1, (opsAt { w with now := w.now + 1 } t).headD op0, 0, -1, 0, 0, []⟩] = _
          rw [show opsAt { w with now := w.now + 1 } t = o1 :: os from eo]; rfl
        rw [el]; exact ol3
    have v3 : ∀ x ∈ Sc' ++ ((b :: (S1 ++ (Sj' ++ S3))) ++ ((b' :: (T1 ++ ([bo] ++ T3))) ++ Sl')), H.nxt + 2 ≤ x := fun x hx => by
      rcases v2 x hx with h | h
      · exact hF1 x h
      · omega
    have vS : Sub H H3 := by
      refine ⟨by have := z1.1; have := g3.1; omega, fun x B hBx => ?_⟩
      have h1 := hw.lt hBx
      have h2 := z1.2 x B hBx
      refine kq x B (fun hm => ?_) (by rw [hMM x (by omega) (by omega) (by omega), h2])
      rcases List.mem_cons.1 hm with h | h
      · omega
      · rcases List.mem_cons.1 h with h | h
        · omega
        · have := hF1 x (by simp only [List.mem_append, List.mem_cons, List.append_nil] at h ⊢; grind); omega
    exact retK_one ⟨vS.set hw (Nat.le_succ _) _, _, _, rfl, Own.eq hown (fun x hx => blk_set_ne _ (by have := v3 x hx; omega) _), v1, fun x hx => by have := v3 x hx; omega⟩
end Go.Proofs.YtipfnhfcoolhaaaGreat.Aw
end
section
namespace Go.Proofs.YtipfnhfcoolhaaaGreat.Aw
open Go Go.RowKit
set_option maxRecDepth 100000
set_option maxHeartbeats 4000000
attribute [-go_sem] wr_eq
theorem StepI_impl (W0 : World) (cs : List AV) (w : WorldD) (t : Int) (H : AH) (hx : Ob.rep W0 H cs w) (hb : WB w) (hv : ¬ (worldOk w = true ∧ (0 ≤ t ∧ t ≤ 3) ∧ ¬ w.now = 1000000000)) : ACalls Tryz.prog W0 29 [.agg cs, .v (.int .i64 t)] H (fun u H' => NewV H H' u w) := by
  refine acallw Tryz.func29 rfl (by kernel_rfl) (by kernel_rfl) fun hc hw => ?_
  have hx0 := hx
  obtain ⟨xc, xj, xt, xl, rfl, f1, f2, f3, f4, is, inw⟩ := hx0
  have c1 := f1.one; have c2 := f2.one; have c3 := f3.one; have c4 := f4.one
  have p1 := f1.leaf; have p2 := f2.leaf; have p3 := f3.leaf; have p4 := f4.leaf
  repeat' (first | simp -implicitDefEqProofs only [go_sem])
  refine ACallK.of (worldCopy_ok _ _ w _ (Ob.sub (by repeat (first | exact Sub.refl _ | assumption | refine Sub.new (by assumption) ?_ _ _ | refine Sub.kill_new (by assumption) ?_ _ _ | refine Sub.trans ?_ (by assumption))) hx) hb).cl ?_
  rintro _ H1 ⟨⟨s1, S1, d1, rfl, o1, F1⟩, k1⟩
  have z1 : Sub H H1 := Sub.trans (by repeat (first | exact Sub.refl _ | assumption | refine Sub.new (by assumption) ?_ _ _ | refine Sub.kill_new (by assumption) ?_ _ _ | refine Sub.trans ?_ (by assumption))) s1
  have n1 := s1.1; simp only [go_sem] at n1
  have hF1 := F1.2; simp only [go_sem] at hF1
  have q1 : d1.length = 6 := Ob.len (Own.rep (W0 := W0) o1)
  have l1 : d1.all leafA = true := Ob.leaf (Own.rep (W0 := W0) o1)
  have t1 : d1.take 6 = d1 := List.take_of_length_le (by omega)
  have bm := s1.2 H.nxt _ (by simp only [go_sem]; rfl)
  have br := s1.2 (H.nxt + 1) _ (by simp only [go_sem]; rfl)
  have e0 : ¬ H.nxt = H1.nxt := by omega
  have e1 : ¬ H.nxt + 1 = H1.nxt := by omega
  repeat' (first | simp -implicitDefEqProofs only [go_sem] | (simp -implicitDefEqProofs only [bm, br, e0, e1, q1, t1, blk_set_self, if_false, List.drop_zero, Nat.le_refl]) | (with_reducible refine And.intro l1 ?_) | (rw [wr_all _ _ (by rw [q1]; rfl)]) | (refine ACallK.eq (WorldOk_impl _ _ w _ (Ob.sub (z1.trans ((Sub.refl _).new k1.1 _ _)) hx)) ?_) | (refine ACallK.eq (within_ok _ _ _ _ _) ?_) | (exact retK_one ⟨(z1.trans ((Sub.refl _).new k1.1 _ _)).set hw (Nat.le_succ _) _, S1, _, rfl, Own.eq (Own.sub o1 ((Sub.refl _).new k1.1 d1 6)) (fun b hb => blk_set_ne _ (by have := hF1 b hb; omega) _), F1.le (by simp only [go_sem]; omega)⟩) | refine acond_dec (fun _ => ?_) (fun _ => ?_) | refine agrd_ndecf (fun _ => ?_) (fun _ => ?_) | refine agrd_bf (fun _ => ?_) (fun _ => ?_))
  all_goals first
    | (exfalso; simp_all; done)
    | (exfalso; exact hv (by simp_all))
    | trace_state
theorem StepN_impl (W0 : World) (cs : List AV) (w : WorldD) (t : Nat) (H : AH) (hx : Ob.rep W0 H cs w) (hb : WB w) (hok : worldOk w = true) (ht : t ≤ 3) (hbusy : ¬ (jobOf w t).busy = true) (hnow : ¬ w.now = 1000000000) (hno : opsAt w t = [] ∨ w.serial = 1000000) : ACalls Tryz.prog W0 29 [.agg cs, .v (.int .i64 t)] H (fun u H' => NewV H H' u w) := by
  refine acallw Tryz.func29 rfl (by kernel_rfl) (by kernel_rfl) fun hc hw => ?_
  have hx0 := hx
  obtain ⟨xc, xj, xt, xl, rfl, f1, f2, f3, f4, is, inw⟩ := hx0
  have hft := f3
  have c1 := f1.one; have c2 := f2.one; have c3 := f3.one; have c4 := f4.one
  have p1 := f1.leaf; have p2 := f2.leaf; have p3 := f3.leaf; have p4 := f4.leaf
  obtain ⟨cok, tok, sok, nok, jl, _⟩ := worldOk_iff.1 hok
  have tl : w.todo.length = 4 := (todoOk_iff.1 tok).1
  have hltj : t < w.jobs.length := by omega
  have hltt : t < w.todo.length := by omega
  have ej : jobOf w t = w.jobs[t] := by unfold jobOf; rw [List.getD_eq_getElem?_getD, List.getElem?_eq_getElem hltj]; rfl
  have et : opsAt w t = w.todo[t].ops := by unfold opsAt; rw [List.getD_eq_getElem?_getD, List.getElem?_eq_getElem hltt]; rfl
  rw [et] at hno
  have dnow : decide (w.now = 1000000000) = false := decide_eq_false hnow
  have dv : decide (0 ≤ (t : Int) ∧ (t : Int) ≤ 3) = true := decide_eq_true (by omega)
  repeat' (first | simp -implicitDefEqProofs only [go_sem])
  refine ACallK.of (worldCopy_ok _ _ w _ (Ob.sub (by repeat (first | exact Sub.refl _ | assumption | refine Sub.new (by assumption) ?_ _ _ | refine Sub.kill_new (by assumption) ?_ _ _ | refine Sub.trans ?_ (by assumption))) hx) hb).cl ?_
  rintro _ H1 ⟨⟨s1, S0, d1, rfl, o1_, F1⟩, k1⟩
  have w1 := k1.1
  have z1 : Sub H H1 := Sub.trans (by repeat (first | exact Sub.refl _ | assumption | refine Sub.new (by assumption) ?_ _ _ | refine Sub.kill_new (by assumption) ?_ _ _ | refine Sub.trans ?_ (by assumption))) s1
  have n1 := s1.1; simp only [go_sem] at n1
  have hF1 := F1.2; simp only [go_sem] at hF1
  have bm := s1.2 H.nxt _ (by simp only [go_sem]; rfl)
  have br := s1.2 (H.nxt + 1) _ (by simp only [go_sem]; rfl)
  have hS := Own.isin o1_
  have oAll := o1_
  obtain ⟨vc, vj, vt, vl, Sc, Sj, St, Sl, rfl, rfl, oc, oj, ot, ol, -, -⟩ := o1_
  obtain ⟨b, oo, pre, mid, post, S1, S2, S3, rfl, hB, hp, hm, rfl, hown, put⟩ := oj.get t hltj
  rw [← ej] at hown
  have hbn : (jobOf w t).busy = false := by simpa using hbusy
  have hb0 : b < H1.nxt := w1.lt hB
  have hbF := hF1 b (by simp)
  generalize hjj : jobOf w t = j at *
  obtain ⟨vk, vr, Sk, Sr, rfl, rfl, f0, f1, f2, f3, f4, f5, f6, f7, f8, f9, f10, f11, f12, f13, f14, f15, f16⟩ := hown
  simp only [Ob.n, Nat.mul_one, List.cons_append, List.nil_append] at hB hp
  have lc := oc.leaf; have cc := oc.one
  have ll := ol.leaf; have cl := ol.one
  have lt := ot.leaf; have ct := ot.one
  have lk := f15.leaf; have ck := f15.one
  have lr := f16.leaf; have cr := f16.one
  have y0 : ¬ b = H1.nxt := by omega
  have y1 : ¬ b = H1.nxt + 1 := by omega
  have e0 : ¬ H.nxt = H1.nxt := by omega
  have e1 : ¬ H.nxt + 1 = H1.nxt := by omega
  have e2 : ¬ H.nxt + 1 = H1.nxt + 1 := by omega
  have e7 : ¬ H.nxt = H1.nxt + 1 := by omega
  repeat' (first | simp -implicitDefEqProofs only [go_sem] | (simp -implicitDefEqProofs (disch := omega) only [bm, br, hB, e0, e1, e2, e7, y0, y1, hbn, dnow, Int.toNat_natCast, wr_preA hp, wr_pre0 hp, drop_preA hp, drop_pre0 hp, lc, cc, ll, cl, lt, ct, lk, ck, lr, cr, blk_set_self, wr_succ, wr_zero, wr_none, set_set, List.length_append, List.length_cons, Bool.and_self, Bool.not_true, Bool.not_false, Bool.false_eq_true, if_true, if_false]) | (rw [if_pos (by omega)]) | (refine ACallK.eq (WorldOk_impl _ _ w _ (Ob.sub (z1.trans ((Sub.refl _).new w1 _ _)) hx)) ?_; rw [hok]) | (refine ACallK.eq (within_ok _ _ _ _ _) ?_; rw [dv]) | (refine aixs_sln hft ?_) | (refine aK_slw hft hltt ?_; rintro _ ⟨yo, rfl, hyo⟩) | (refine abi_len_sl' hyo ?_) | (exact retK_one ⟨(z1.trans (((Sub.refl _).new w1 _ _).trans ((Sub.refl _).new (w1.new _ _) _ _))).set hw (Nat.le_succ _) _, _, _, rfl, Own.eq (Own.sub oAll (((Sub.refl _).new w1 [vc, AV.sl b oo w.jobs.length, vt, vl, AV.v (Value.int IntKind.i64 w.serial), AV.v (Value.int IntKind.i64 w.now)] 6).trans ((Sub.refl _).new (w1.new _ _) [AV.ptr H1.nxt 0, AV.v (Value.int IntKind.i64 t), AV.ptr b (oo + t * 18)] 3))) (fun b hb => blk_set_ne _ (by have := hF1 b hb; omega) _), F1.le (by simp only [go_sem]; omega)⟩) | refine acond_dec (fun _ => ?_) (fun _ => ?_) | refine agrd_decf (fun _ => ?_) (fun _ => ?_) | refine afa_sl (by assumption) ?_ | simp -implicitDefEqProofs (disch := omega) only [wrap_in, u8_small, Int.tmod_eq_emod_of_nonneg, Int.tdiv_eq_ediv_of_nonneg] | ((with_reducible refine adraw_seq ?_ ?_ ?_); (· kernel_rfl); (· decide +kernel)) | (with_reducible refine And.intro (by omega) ?_) | fail)
  all_goals first
    | (exfalso; rcases hno with h | h; (rw [h] at *; simp_all; done); omega)
    | (exfalso; rcases hno with h | h; (have h9 : w.todo[t].ops.length = 0 := by rw [h]; rfl
                                        omega); omega)
    | trace_state
theorem Step_impl0 (W0 : World) (cs : List AV) (w : WorldD) (t : Int) (H : AH) (hx : Ob.rep W0 H cs w) (hb : WB w) : ACalls Tryz.prog W0 29 [.agg cs, .v (.int .i64 t)] H (fun u H' => NewV H H' u (stepS w t)) := by
  by_cases hv : worldOk w = true ∧ (0 ≤ t ∧ t ≤ 3) ∧ ¬ w.now = 1000000000
  · obtain ⟨hok, ht, hnow⟩ := hv
    obtain ⟨n, rfl⟩ : ∃ n : Nat, t = n := ⟨t.toNat, by omega⟩
    have hst : stepS w n = stepD w n := by unfold stepS; rw [if_pos ⟨hok, ht⟩]; rfl
    rw [hst]
    by_cases hbusy : (jobOf w n).busy = true
    · exact StepM_impl W0 cs w n H hx hb hok (by omega) hbusy hnow
    · unfold stepD
      rw [if_neg hnow, if_neg hbusy]
      by_cases hno : opsAt w n = [] ∨ w.serial = 1000000
      · rw [if_pos hno]; exact StepN_impl W0 cs w n H hx hb hok (by omega) hbusy hnow hno
      · rw [if_neg hno]; exact StepS_impl W0 cs w n H hx hb hok (by omega) hbusy hnow (fun h => hno (.inl h)) (fun h => hno (.inr h))
  · have hst : stepS w t = w := by
      unfold stepS
      split
      · rename_i h
        unfold stepD
        rw [if_pos (by by_cases h2 : w.now = 1000000000; exact h2; exact absurd ⟨h.1, h.2, h2⟩ hv)]
      · rfl
    rw [hst]; exact StepI_impl W0 cs w t H hx hb hv
theorem Step_impl (W0 : World) (cs : List AV) (w : WorldD) (t : Int) (H : AH) (hx : Ob.rep W0 H cs w) (hb : WB w) (hl : LB 9000000 w) : ACalls Tryz.prog W0 29 [.agg cs, .v (.int .i64 t)] H (fun u H' => NewV H H' u (stepS w t)) := Step_impl0 W0 cs w t H hx hb
end Go.Proofs.YtipfnhfcoolhaaaGreat.Aw
end
