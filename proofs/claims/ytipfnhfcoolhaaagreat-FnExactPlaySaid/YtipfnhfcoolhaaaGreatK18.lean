/- Parts of a proof: Fwu Fwo Fwk Fwz Mc. -/
import Derived.Test.YtipfnhfcoolhaaaGreatK17
import Derived.Test.YtipfnhfcoolhaaaGreatK05
import Derived.Test.YtipfnhfcoolhaaaGreatK11
import Derived.Test.YtipfnhfcoolhaaaGreatK12
set_option linter.unusedVariables false
set_option linter.unusedSimpArgs false
section
namespace Go.Proofs.YtipfnhfcoolhaaaGreat.Aw
open Go Go.RowKit
set_option maxRecDepth 100000
set_option maxHeartbeats 4000000
attribute [-go_sem] wr_eq
theorem nd_start {Sc S1 S2 S3 T1 T2 T3 Sl Sl' : List Nat} {b b' n : Nat} (h : (Sc ++ ((b :: (S1 ++ (S2 ++ S3))) ++ ((b' :: (T1 ++ (T2 ++ T3))) ++ Sl))).Nodup) (hi : ∀ x ∈ Sc ++ ((b :: (S1 ++ (S2 ++ S3))) ++ ((b' :: (T1 ++ (T2 ++ T3))) ++ Sl)), x < n) (hl : Sl'.Nodup) (hm : ∀ x ∈ Sl', x ∈ Sl ∨ n ≤ x) :
    (Sc ++ ((b :: (S1 ++ (([] ++ []) ++ S3))) ++ ((b' :: (T1 ++ (T2 ++ T3))) ++ Sl'))).Nodup ∧ (∀ x ∈ Sc ++ ((b :: (S1 ++ (([] ++ []) ++ S3))) ++ ((b' :: (T1 ++ (T2 ++ T3))) ++ Sl')), x ∈ Sc ++ ((b :: (S1 ++ (S2 ++ S3))) ++ ((b' :: (T1 ++ (T2 ++ T3))) ++ Sl)) ∨ n ≤ x) ∧ b ≠ b' ∧ b ∉ Sl ∧ b' ∉ Sl ∧ Sl.Nodup ∧ ∀ x, (x ∈ Sc ∨ x ∈ S1 ++ S3 ∨ x ∈ T1 ++ T3 ∨ x ∈ T2) → x ≠ b ∧ x ≠ b' ∧ x ∉ Sl := by
  simp only [List.nodup_append, List.nodup_cons, List.mem_append, List.mem_cons, List.nil_append, List.not_mem_nil, List.nodup_nil, or_false, false_or] at *
  refine ⟨?_, ?_, ?_, ?_, ?_, ?_, ?_⟩ <;> grind
theorem startJ_f {s : Int} {o : OpD} (h : o.kind = 3) : startJ s o = { job0 with busy := true, op := o, serial := s, pc := 12 } := by unfold startJ; rw [if_pos h]
theorem startJ_w {s : Int} {o : OpD} (h : ¬ o.kind = 3) : startJ s o = { job0 with busy := true, op := o, serial := s, pc := 0 } := by unfold startJ; rw [if_neg h]
theorem l11Start_ok (W0 : World) (cs : List AV) (w : WorldD) (t : Nat) (S : List Nat) (H : AH) (ho : Own.own H S cs w) (hnd : S.Nodup) (hj4 : w.jobs.length = 4) (ht4 : w.todo.length = 4) (ht : t ≤ 3) (hops : opsAt w t ≠ []) (hl : w.log.length ≤ 100000000) (hser : 0 ≤ w.serial ∧ w.serial ≤ 1000000) :
    ACalls Tryz.prog W0 144 [.agg cs, .v (.int .i64 t)] H (fun r H' => ∃ cs' S', r = .agg cs' ∧ Own.own H' S' cs' (startD w t) ∧ Upd S H H' S') := by
  refine acallw Tryz.func144 rfl (by kernel_rfl) (by kernel_rfl) fun hc hw => ?_
  have hS := Own.isin ho
  obtain ⟨vc, vj, vt, vl, Sc, Sj, St, Sl, rfl, rfl, oc, oj, ot, ol, is, inw⟩ := ho
  have hltj : t < w.jobs.length := by omega
  have hltt : t < w.todo.length := by omega
  have et : opsAt w t = w.todo[t].ops := by unfold opsAt; rw [List.getD_eq_getElem?_getD, List.getElem?_eq_getElem hltt]; rfl
  obtain ⟨b, oo, pre, mid, post, S1, S2, S3, rfl, hB, hp, hm, rfl, hown, put⟩ := oj.get t hltj
  obtain ⟨b', o', preT, midT, postT, T1, T2, T3, rfl, hBt, hpT, hmT, rfl, hownT, putT⟩ := ot.get t hltt
  have hlen : midT.length = 1 := hmT
  obtain ⟨vo, So_, rfl, rfl, oo0⟩ := hownT
  rw [← et] at oo0
  obtain ⟨o1, os, eo⟩ : ∃ x xs, opsAt w t = x :: xs := List.exists_cons_of_ne_nil hops
  rw [eo] at oo0
  obtain ⟨bo, oq, rfl, rfl⟩ : ∃ bo oq, vo = .sl bo oq (o1 :: os).length ∧ T2 = [bo] := by
    rcases oo0.flat with ⟨-, h, -⟩ | ⟨bo, oq, _, h, _, _, _, h2, _, _⟩
    · cases h
    · exact ⟨bo, oq, h, h2⟩
  have otl := oo0.tail rfl
  obtain ⟨bo2, oq2, preo, mido, posto, U1, U2, U3, hvo, hBo, hpo, hmo, hUo, hown1, -⟩ := oo0.get 0 (by simp)
  injection hvo with h1 h2 h3
  subst h1 h2
  obtain ⟨rfl, rfl, q0, q1, q2, q3⟩ := hown1
  simp only [Ob.n, Nat.zero_mul, Nat.add_zero, List.getElem_cons_zero, List.cons_append, List.nil_append] at hBo hpo q0 q1 q2 q3
  have hS0 : ∀ x ∈ Sc ++ ((b :: (S1 ++ (S2 ++ S3))) ++ ((b' :: (T1 ++ ([bo] ++ T3))) ++ Sl)), x < H.nxt := fun x hx => hw.lt' (hS x hx)
  obtain ⟨-, -, nbb, nbl, nbl', nl, nd⟩ := nd_start (Sl' := Sl) (n := H.nxt) hnd hS0 (by have := hnd; simp only [List.nodup_append] at this; grind) (fun x hx => .inl hx)
  have hb0 : b < H.nxt := hw.lt hB
  have hb0' : b' < H.nxt := hw.lt hBt
  simp only [Ob.n, Nat.mul_one] at hB hp hBt hpT
  have hml : mid.length = 18 := hm
  have lc := oc.leaf; have cc := oc.one
  have ll := ol.leaf; have cl := ol.one
  have eser : IntKind.i64.wrap (w.serial + 1) = w.serial + 1 := wrap_in _ (by omega) (by omega)
  have y0 : ¬ b = H.nxt := by omega
  have y1 : ¬ b = H.nxt + 1 := by omega
  have y2 : ¬ b = H.nxt + 2 := by omega
  have y3 : ¬ b = H.nxt + 3 := by omega
  have z0 : ¬ b' = H.nxt := by omega
  have z1 : ¬ b' = H.nxt + 1 := by omega
  have z2 : ¬ b' = H.nxt + 2 := by omega
  have z3 : ¬ b' = H.nxt + 3 := by omega
  have y0' : ¬ H.nxt = b := by omega
  have y1' : ¬ H.nxt + 1 = b := by omega
  have y2' : ¬ H.nxt + 2 = b := by omega
  have y3' : ¬ H.nxt + 3 = b := by omega
  have z0' : ¬ H.nxt = b' := by omega
  have z1' : ¬ H.nxt + 1 = b' := by omega
  have z2' : ¬ H.nxt + 2 = b' := by omega
  have z3' : ¬ H.nxt + 3 = b' := by omega
  have hbo : bo < H.nxt := hw.lt hBo
  have x0 : ¬ bo = H.nxt := by omega
  have x1 : ¬ bo = H.nxt + 1 := by omega
  have x2 : ¬ bo = H.nxt + 2 := by omega
  have x3 : ¬ bo = H.nxt + 3 := by omega
  have y4 : ¬ b = H.nxt + 4 := by omega
  have z4 : ¬ b' = H.nxt + 4 := by omega
  have hbb := nd bo (by simp)
  have x4 : ¬ bo = b := hbb.1
  have x5 : ¬ bo = b' := hbb.2.1
  have nbb' : ¬ b' = b := fun h => nbb h.symm
  have nbb0 : ¬ b = b' := nbb
  have hSl : ∀ x ∈ Sl, x < H.nxt := fun x hx => hS0 x (by simp only [List.mem_append]; exact .inr (.inr (.inr hx)))
  have n0 : H.nxt ∉ Sl := fun h => by have := hSl _ h; omega
  have n1 : H.nxt + 1 ∉ Sl := fun h => by have := hSl _ h; omega
  have n2 : H.nxt + 2 ∉ Sl := fun h => by have := hSl _ h; omega
  have n3 : H.nxt + 3 ∉ Sl := fun h => by have := hSl _ h; omega
  have hwr : ∀ c : List AV, c.length = 18 → wr (pre ++ (mid ++ post)) (oo + t * 18) c = pre ++ (c ++ post) := fun c hcl => by
    rw [wr_pre0 hp, wr, List.take_zero, List.nil_append, Nat.zero_add, ← hml.trans hcl.symm, List.drop_left]
  repeat' (first | simp -implicitDefEqProofs only [go_sem] | (simp -implicitDefEqProofs (disch := omega) only [hB, hBt, hBo, x0, x1, x2, x3, x4, x5, drop_pre0 hpo, eser, Int.toNat_natCast, wr_pre0 hpT, drop_pre0 hpT, y0, y1, y2, y3, z0, z1, z2, z3, y0', y1', y2', y3', z0', z1', z2', z3', nbb0, nbb', lc, cc, ll, cl, blk_set_self, wr_succ, wr_zero, wr_none, set_set, List.length_append, List.length_cons, Bool.and_self, Bool.false_eq_true, if_true, if_false]) | (rw [if_pos (by omega)]) | (rw [hwr _ rfl]) | refine acond_dec (fun _ => ?_) (fun _ => ?_) | ((with_reducible refine adraw_seq ?_ ?_ ?_); (· kernel_rfl); (· decide +kernel)) | (with_reducible refine And.intro (by omega) ?_) | fail)
  · skip
    refine app_one (x := ⟨1, t, w.serial + 1, w.now, o1, 0, -1, 0, 0, []⟩) (S := Sl) (S2 := []) (Kp.own ol (fun _ h => h) (by repeat (first | exact Kp.refl _ _ | refine Kp.set ?_ (by assumption) _ | refine Kp.new ?_ (by assumption) _ _))) (EvD.own_mk (by simp only [inI64]; omega) (by simp only [inI64]; omega) (by simp only [inI64]; omega) inw q0 q1 q2 q3 inI_z (by simp only [inI64]; omega) inI_z inI_z (ownS_none _)) (by simpa using nl) ?_ ?_ (fun hm => by have := hSl _ hm; omega) ?_
    · repeat (first | exact hw | refine AH.wf.new ?_ _ _ | refine AH.wf.set ?_ ?_ _)
      all_goals (simp only [go_sem]; omega)
    · simp only [go_sem]
    intro H2 Sl2 vl2 w2 o2 g2 m2
    rw [List.append_nil] at g2
    simp only [go_sem] at m2
    have b0 := g2.2.1 H.nxt _ n0 (by simp only [go_sem, hB, hBt, y0, y1, y2, y3, y4, z0, z1, z2, z3, z4, y0', y1', y2', y3', z0', z1', z2', z3', nbb0, nbb', if_true, if_false]; rfl)
    have b1 := g2.2.1 (H.nxt + 1) _ n1 (by simp only [go_sem, hB, hBt, y0, y1, y2, y3, y4, z0, z1, z2, z3, z4, y0', y1', y2', y3', z0', z1', z2', z3', nbb0, nbb', if_true, if_false]; rfl)
    have b2 := g2.2.1 b _ nbl (by simp only [go_sem, hB, hBt, y0, y1, y2, y3, y4, z0, z1, z2, z3, z4, y0', y1', y2', y3', z0', z1', z2', z3', nbb0, nbb', if_true, if_false]; rfl)
    have b3 := g2.2.1 b' _ nbl' (by simp only [go_sem, hB, hBt, y0, y1, y2, y3, y4, z0, z1, z2, z3, z4, y0', y1', y2', y3', z0', z1', z2', z3', nbb0, nbb', if_true, if_false]; rfl)
    have l2 := o2.leaf; have c2 := o2.one
    have hK : ∀ x, x < H.nxt → x ≠ b → x ≠ b' → x ∉ Sl → (H.blk x).isSome = true → H2.blk x = H.blk x := fun x h1 h2 h3 h4 h5 => by
      obtain ⟨B, hBx⟩ := Option.isSome_iff_exists.1 h5
      rw [hBx]
      refine g2.2.1 x B h4 ?_
      simp only [go_sem, if_neg h2, if_neg h3, if_neg (show ¬ x = H.nxt by omega), if_neg (show ¬ x = H.nxt + 1 by omega), if_neg (show ¬ x = H.nxt + 2 by omega), if_neg (show ¬ x = H.nxt + 3 by omega), if_neg (show ¬ x = H.nxt + 4 by omega)]
      exact hBx
    repeat' (first | simp -implicitDefEqProofs only [go_sem] | (simp -implicitDefEqProofs (disch := omega) only [b0, b1, b2, b3, hB, hBt, y0, y1, y2, y3, z0, z1, z2, z3, y0', y1', y2', y3', z0', z1', z2', z3', nbb0, nbb', l2, c2, lc, cc, blk_set_self, wr_succ, wr_zero, wr_none, set_set, List.length_append, List.length_cons, Bool.and_self, Bool.false_eq_true, if_true, if_false]))
    have hS2 : ∀ x ∈ Sl2, x ∈ Sl ∨ H.nxt + 4 ≤ x := fun x hx => (g2.2.2.1 x hx).imp id (fun h => by simp only [go_sem] at h; omega)
    obtain ⟨e1, e2, -⟩ := nd_start (n := H.nxt) hnd hS0 g2.2.2.2 (fun x hx => (hS2 x hx).imp id (fun h => by omega))
    have hF : ∀ x, x < H.nxt → x ≠ b → x ≠ b' → x ∉ Sl → (H.blk x).isSome = true → ∀ B0 B1, ((H2.set H.nxt B0).set (H.nxt + 1) B1).blk x = H.blk x := fun x h1 h2 h3 h4 h5 B0 B1 => by
      rw [blk_set_ne _ (by omega), blk_set_ne _ (by omega)]; exact hK x h1 h2 h3 h4 h5
    have memS : ∀ x, (x ∈ Sc ∨ x ∈ S1 ++ S3 ∨ x ∈ T1 ++ T3 ∨ x ∈ [bo]) → x < H.nxt ∧ (H.blk x).isSome = true := fun x hx => by
      have h : x ∈ Sc ++ ((b :: (S1 ++ (S2 ++ S3))) ++ ((b' :: (T1 ++ ([bo] ++ T3))) ++ Sl)) := by simp only [List.mem_append, List.mem_cons] at hx ⊢; grind
      exact ⟨hS0 x h, hS x h⟩
    refine retK_one ⟨_, _, rfl, ⟨vc, .sl b oo w.jobs.length, .sl b' o' w.todo.length, vl2, Sc, b :: (S1 ++ (([] ++ []) ++ S3)), b' :: (T1 ++ ([bo] ++ T3)), Sl2, rfl, rfl, ?_, ?_, ?_, ?_, ?_, inw⟩, ?_, ?_, ?_, ?_⟩
    · exact oc.eq fun x hx => hF x (memS x (.inl hx)).1 (nd x (.inl hx)).1 (nd x (.inl hx)).2.1 (nd x (.inl hx)).2.2 (memS x (.inl hx)).2 _ _
    · refine put _ ([] ++ []) [AV.v (Value.bool true), AV.v (Value.int IntKind.i64 o1.kind), AV.v (Value.string o1.key), AV.v (Value.int IntKind.i64 o1.what), AV.v (Value.int IntKind.i64 o1.val), AV.v (Value.int IntKind.i64 (w.serial + 1)), AV.v (Value.int IntKind.i64 12), AV.v (Value.int IntKind.i64 0), AV.v (Value.int IntKind.i64 0), AV.v (Value.int IntKind.i64 0), AV.v (Value.int IntKind.i64 0), AV.v (Value.int IntKind.i64 0), AV.v (Value.int IntKind.i64 0), AV.v (Value.int IntKind.i64 0), AV.v (Value.int IntKind.i64 0), AV.v (Value.int IntKind.i64 0), AV.v (Value.slice none 0 0), AV.v (Value.slice none 0 0)] (startJ (w.serial + 1) ((opsAt w t).headD op0)) (by rw [blk_set_ne _ (by omega), blk_set_ne _ (by omega)]; exact b2) (fun x hx => hF x (memS x (.inr (.inl hx))).1 (nd x (.inr (.inl hx))).1 (nd x (.inr (.inl hx))).2.1 (nd x (.inr (.inl hx))).2.2 (memS x (.inr (.inl hx))).2 _ _) ?_
      rw [eo]
      show Own.own _ ([] ++ []) _ (startJ (w.serial + 1) o1)
      rw [startJ_f (by assumption)]
      refine ⟨.v (.slice none 0 0), .v (.slice none 0 0), [], [], rfl, ?_, q0, q1, q2, q3, by show inI64 (w.serial + 1); simp only [inI64]; omega, by simp only [inI64]; omega, inI_z, inI_z, inI_z, inI_z, inI_z, inI_z, inI_z, inI_z, inI_z, ownS_none _, ownS_none _⟩
      rfl
    · refine putT _ [bo] [.sl bo (oq + 4) (os.length + 1 - 1)] ⟨(opsAt w t).tail⟩ (by rw [blk_set_ne _ (by omega), blk_set_ne _ (by omega)]; exact b3) (fun x hx => hF x (memS x (.inr (.inr (.inl hx)))).1 (nd x (.inr (.inr (.inl hx)))).1 (nd x (.inr (.inr (.inl hx)))).2.1 (nd x (.inr (.inr (.inl hx)))).2.2 (memS x (.inr (.inr (.inl hx)))).2 _ _) ⟨_, _, rfl, rfl, ?_⟩
      rw [eo]
      exact otl.eq fun x hx => hF x (memS x (.inr (.inr (.inr hx)))).1 (nd x (.inr (.inr (.inr hx)))).1 (nd x (.inr (.inr (.inr hx)))).2.1 (nd x (.inr (.inr (.inr hx)))).2.2 (memS x (.inr (.inr (.inr hx)))).2 _ _
    · show OwnS _ Sl2 vl2 (startD w t).log
      have el : (startD w t).log = w.log ++ [⟨1, t, w.serial + 1, w.now, o1, 0, -1, 0, 0, []⟩] := by unfold startD; rw [eo]; rfl
      rw [el]
      exact (o2.setne (fun x hx => by rcases hS2 x hx with h | h; (have := hSl x h; omega); omega)).setne (fun x hx => by rcases hS2 x hx with h | h; (have := hSl x h; omega); omega)
    · show inI64 (w.serial + 1); simp only [inI64]; omega
    · simp only [go_sem]; omega
    · intro x B hx hBx
      have h1 := hw.lt hBx
      rw [hF x h1 (fun h => hx (by rw [h]; simp)) (fun h => hx (by rw [h]; simp)) (fun h => hx (by simp [h])) (by rw [hBx]; rfl)]; exact hBx
    · exact e2
    · exact e1
  · skip
    refine app_one (x := ⟨1, t, w.serial + 1, w.now, o1, 0, -1, 0, 0, []⟩) (S := Sl) (S2 := []) (Kp.own ol (fun _ h => h) (by repeat (first | exact Kp.refl _ _ | refine Kp.set ?_ (by assumption) _ | refine Kp.new ?_ (by assumption) _ _))) (EvD.own_mk (by simp only [inI64]; omega) (by simp only [inI64]; omega) (by simp only [inI64]; omega) inw q0 q1 q2 q3 inI_z (by simp only [inI64]; omega) inI_z inI_z (ownS_none _)) (by simpa using nl) ?_ ?_ (fun hm => by have := hSl _ hm; omega) ?_
    · repeat (first | exact hw | refine AH.wf.new ?_ _ _ | refine AH.wf.set ?_ ?_ _)
      all_goals (simp only [go_sem]; omega)
    · simp only [go_sem]
    intro H2 Sl2 vl2 w2 o2 g2 m2
    rw [List.append_nil] at g2
    simp only [go_sem] at m2
    have b0 := g2.2.1 H.nxt _ n0 (by simp only [go_sem, hB, hBt, y0, y1, y2, y3, y4, z0, z1, z2, z3, z4, y0', y1', y2', y3', z0', z1', z2', z3', nbb0, nbb', if_true, if_false]; rfl)
    have b1 := g2.2.1 (H.nxt + 1) _ n1 (by simp only [go_sem, hB, hBt, y0, y1, y2, y3, y4, z0, z1, z2, z3, z4, y0', y1', y2', y3', z0', z1', z2', z3', nbb0, nbb', if_true, if_false]; rfl)
    have b2 := g2.2.1 b _ nbl (by simp only [go_sem, hB, hBt, y0, y1, y2, y3, y4, z0, z1, z2, z3, z4, y0', y1', y2', y3', z0', z1', z2', z3', nbb0, nbb', if_true, if_false]; rfl)
    have b3 := g2.2.1 b' _ nbl' (by simp only [go_sem, hB, hBt, y0, y1, y2, y3, y4, z0, z1, z2, z3, z4, y0', y1', y2', y3', z0', z1', z2', z3', nbb0, nbb', if_true, if_false]; rfl)
    have l2 := o2.leaf; have c2 := o2.one
    have hK : ∀ x, x < H.nxt → x ≠ b → x ≠ b' → x ∉ Sl → (H.blk x).isSome = true → H2.blk x = H.blk x := fun x h1 h2 h3 h4 h5 => by
      obtain ⟨B, hBx⟩ := Option.isSome_iff_exists.1 h5
      rw [hBx]
      refine g2.2.1 x B h4 ?_
      simp only [go_sem, if_neg h2, if_neg h3, if_neg (show ¬ x = H.nxt by omega), if_neg (show ¬ x = H.nxt + 1 by omega), if_neg (show ¬ x = H.nxt + 2 by omega), if_neg (show ¬ x = H.nxt + 3 by omega), if_neg (show ¬ x = H.nxt + 4 by omega)]
      exact hBx
    repeat' (first | simp -implicitDefEqProofs only [go_sem] | (simp -implicitDefEqProofs (disch := omega) only [b0, b1, b2, b3, hB, hBt, y0, y1, y2, y3, z0, z1, z2, z3, y0', y1', y2', y3', z0', z1', z2', z3', nbb0, nbb', l2, c2, lc, cc, blk_set_self, wr_succ, wr_zero, wr_none, set_set, List.length_append, List.length_cons, Bool.and_self, Bool.false_eq_true, if_true, if_false]))
    have hS2 : ∀ x ∈ Sl2, x ∈ Sl ∨ H.nxt + 4 ≤ x := fun x hx => (g2.2.2.1 x hx).imp id (fun h => by simp only [go_sem] at h; omega)
    obtain ⟨e1, e2, -⟩ := nd_start (n := H.nxt) hnd hS0 g2.2.2.2 (fun x hx => (hS2 x hx).imp id (fun h => by omega))
    have hF : ∀ x, x < H.nxt → x ≠ b → x ≠ b' → x ∉ Sl → (H.blk x).isSome = true → ∀ B0 B1, ((H2.set H.nxt B0).set (H.nxt + 1) B1).blk x = H.blk x := fun x h1 h2 h3 h4 h5 B0 B1 => by
      rw [blk_set_ne _ (by omega), blk_set_ne _ (by omega)]; exact hK x h1 h2 h3 h4 h5
    have memS : ∀ x, (x ∈ Sc ∨ x ∈ S1 ++ S3 ∨ x ∈ T1 ++ T3 ∨ x ∈ [bo]) → x < H.nxt ∧ (H.blk x).isSome = true := fun x hx => by
      have h : x ∈ Sc ++ ((b :: (S1 ++ (S2 ++ S3))) ++ ((b' :: (T1 ++ ([bo] ++ T3))) ++ Sl)) := by simp only [List.mem_append, List.mem_cons] at hx ⊢; grind
      exact ⟨hS0 x h, hS x h⟩
    refine retK_one ⟨_, _, rfl, ⟨vc, .sl b oo w.jobs.length, .sl b' o' w.todo.length, vl2, Sc, b :: (S1 ++ (([] ++ []) ++ S3)), b' :: (T1 ++ ([bo] ++ T3)), Sl2, rfl, rfl, ?_, ?_, ?_, ?_, ?_, inw⟩, ?_, ?_, ?_, ?_⟩
    · exact oc.eq fun x hx => hF x (memS x (.inl hx)).1 (nd x (.inl hx)).1 (nd x (.inl hx)).2.1 (nd x (.inl hx)).2.2 (memS x (.inl hx)).2 _ _
    · refine put _ ([] ++ []) [AV.v (Value.bool true), AV.v (Value.int IntKind.i64 o1.kind), AV.v (Value.string o1.key), AV.v (Value.int IntKind.i64 o1.what), AV.v (Value.int IntKind.i64 o1.val), AV.v (Value.int IntKind.i64 (w.serial + 1)), AV.v (Value.int IntKind.i64 0), AV.v (Value.int IntKind.i64 0), AV.v (Value.int IntKind.i64 0), AV.v (Value.int IntKind.i64 0), AV.v (Value.int IntKind.i64 0), AV.v (Value.int IntKind.i64 0), AV.v (Value.int IntKind.i64 0), AV.v (Value.int IntKind.i64 0), AV.v (Value.int IntKind.i64 0), AV.v (Value.int IntKind.i64 0), AV.v (Value.slice none 0 0), AV.v (Value.slice none 0 0)] (startJ (w.serial + 1) ((opsAt w t).headD op0)) (by rw [blk_set_ne _ (by omega), blk_set_ne _ (by omega)]; exact b2) (fun x hx => hF x (memS x (.inr (.inl hx))).1 (nd x (.inr (.inl hx))).1 (nd x (.inr (.inl hx))).2.1 (nd x (.inr (.inl hx))).2.2 (memS x (.inr (.inl hx))).2 _ _) ?_
      rw [eo]
      show Own.own _ ([] ++ []) _ (startJ (w.serial + 1) o1)
      rw [startJ_w (by assumption)]
      refine ⟨.v (.slice none 0 0), .v (.slice none 0 0), [], [], rfl, ?_, q0, q1, q2, q3, by show inI64 (w.serial + 1); simp only [inI64]; omega, by simp only [inI64]; omega, inI_z, inI_z, inI_z, inI_z, inI_z, inI_z, inI_z, inI_z, inI_z, ownS_none _, ownS_none _⟩
      rfl
    · refine putT _ [bo] [.sl bo (oq + 4) (os.length + 1 - 1)] ⟨(opsAt w t).tail⟩ (by rw [blk_set_ne _ (by omega), blk_set_ne _ (by omega)]; exact b3) (fun x hx => hF x (memS x (.inr (.inr (.inl hx)))).1 (nd x (.inr (.inr (.inl hx)))).1 (nd x (.inr (.inr (.inl hx)))).2.1 (nd x (.inr (.inr (.inl hx)))).2.2 (memS x (.inr (.inr (.inl hx)))).2 _ _) ⟨_, _, rfl, rfl, ?_⟩
      rw [eo]
      exact otl.eq fun x hx => hF x (memS x (.inr (.inr (.inr hx)))).1 (nd x (.inr (.inr (.inr hx)))).1 (nd x (.inr (.inr (.inr hx)))).2.1 (nd x (.inr (.inr (.inr hx)))).2.2 (memS x (.inr (.inr (.inr hx)))).2 _ _
    · show OwnS _ Sl2 vl2 (startD w t).log
      have el : (startD w t).log = w.log ++ [⟨1, t, w.serial + 1, w.now, o1, 0, -1, 0, 0, []⟩] := by unfold startD; rw [eo]; rfl
      rw [el]
      exact (o2.setne (fun x hx => by rcases hS2 x hx with h | h; (have := hSl x h; omega); omega)).setne (fun x hx => by rcases hS2 x hx with h | h; (have := hSl x h; omega); omega)
    · show inI64 (w.serial + 1); simp only [inI64]; omega
    · simp only [go_sem]; omega
    · intro x B hx hBx
      have h1 := hw.lt hBx
      rw [hF x h1 (fun h => hx (by rw [h]; simp)) (fun h => hx (by rw [h]; simp)) (fun h => hx (by simp [h])) (by rw [hBx]; rfl)]; exact hBx
    · exact e2
    · exact e1
end Go.Proofs.YtipfnhfcoolhaaaGreat.Aw
end
section
namespace Go.Proofs.YtipfnhfcoolhaaaGreat.Aw
open Go Go.RowKit
set_option maxRecDepth 100000
set_option maxHeartbeats 4000000
attribute [-go_sem] wr_eq
theorem world_leaf {H : AH} {S : List Nat} {cs : List AV} {w : WorldD} (ho : Own.own H S cs w) : ∃ vc vj vt vl, cs = wcs vc vj vt vl w ∧ (leafA vc = true ∧ cellsA vc = some [vc]) ∧ (leafA vj = true ∧ cellsA vj = some [vj]) ∧ (leafA vt = true ∧ cellsA vt = some [vt]) ∧ (leafA vl = true ∧ cellsA vl = some [vl]) ∧ ∀ {W0}, SlR W0 H vj w.jobs ∧ SlR W0 H vt w.todo := by
  obtain ⟨vc, vj, vt, vl, Sc, Sj, St, Sl, rfl, rfl, oc, oj, ot, ol, is, inw⟩ := ho
  exact ⟨vc, vj, vt, vl, rfl, ⟨oc.leaf, oc.one⟩, ⟨oj.leaf, oj.one⟩, ⟨ot.leaf, ot.one⟩, ⟨ol.leaf, ol.one⟩, oj.slr, ot.slr⟩
theorem l11Do_ok (W0 : World) (cs : List AV) (w : WorldD) (t : Nat) (S : List Nat) (H : AH) (ho : Own.own H S cs w) (hnd : S.Nodup) (hok : worldOk w = true) (ht : t ≤ 3) (hl : w.log.length ≤ 100000000) :
    ACalls Tryz.prog W0 65 [.agg cs, .v (.int .i64 t)] H (fun r H' => ∃ cs' S', r = .agg cs' ∧ Own.own H' S' cs' (stepD w t) ∧ Upd S H H' S') := by
  by_cases hbusy : (jobOf w t).busy = true ∧ ¬ w.now = 1000000000
  · exact l11DoM_ok W0 cs w t S H ho hnd hok ht hl hbusy.1 hbusy.2
  refine acallw Tryz.func65 rfl (by kernel_rfl) (by kernel_rfl) fun hc hw => ?_
  have hS := Own.isin ho
  have ho0 := ho
  obtain ⟨cok, tok, sok, nok, jl, _⟩ := worldOk_iff.1 hok
  have tl : w.todo.length = 4 := (todoOk_iff.1 tok).1
  have hltj : t < w.jobs.length := by omega
  have hltt : t < w.todo.length := by omega
  have ej : jobOf w t = w.jobs[t] := by unfold jobOf; rw [List.getD_eq_getElem?_getD, List.getElem?_eq_getElem hltj]; rfl
  have et : opsAt w t = w.todo[t].ops := by unfold opsAt; rw [List.getD_eq_getElem?_getD, List.getElem?_eq_getElem hltt]; rfl
  obtain ⟨vc, vj, vt, vl, rfl, ⟨lc, cc⟩, ⟨lj, cj⟩, ⟨lt, ct⟩, ⟨ll, cl⟩, hsl⟩ := world_leaf ho
  obtain ⟨hjs, hts⟩ := hsl (W0 := W0)
  have fin : stepD w t = w → ∀ H', (∀ b, b < H.nxt → H'.blk b = H.blk b) → H.nxt ≤ H'.nxt → ∃ cs' S', AV.agg (wcs vc vj vt vl w) = .agg cs' ∧ Own.own H' S' cs' (stepD w t) ∧ Upd S H H' S' := fun h H' hk hn => by
    rw [h]
    exact ⟨_, S, rfl, Own.eq ho0 fun b hb => hk b (hw.lt' (hS b hb)), hn, fun b B _ hB => by rw [hk b (hw.lt hB)]; exact hB, fun b hb => .inl hb, hnd⟩
  simp only [wcs]
  by_cases hnow : w.now = 1000000000
  · have dnow : decide (w.now = 1000000000) = true := decide_eq_true hnow
    have hst : stepD w t = w := by unfold stepD; rw [if_pos hnow]
    repeat' (first | simp -implicitDefEqProofs only [go_sem] | (simp -implicitDefEqProofs (disch := omega) only [Int.toNat_natCast, lc, cc, lj, cj, lt, ct, ll, cl, dnow, wr_succ, wr_zero, wr_none, set_set, Bool.and_self, if_true]) | (refine aixs_sln hjs ?_) | (refine aK_slw hjs hltj ?_; intro cs hcs; obtain ⟨y1, y2, rfl, hy1, hy2, -⟩ := JobD.out hcs) | (refine aixs_sln hts ?_) | (refine aK_slw hts hltt ?_; rintro _ ⟨yo, rfl, hyo⟩) | refine agrd_decf (fun _ => ?_) (fun _ => ?_) | refine abi_len_sl' (by assumption) ?_ | refine afa_sl (by assumption) ?_ | rw [SlR.leaf (by assumption)] | refine agrd_bt (fun _ => ?_) (fun _ => ?_))
    all_goals (exact retK_one (fin hst _ (fun b hb => by simp only [blk_new, nxt_new, if_neg (show ¬ b = H.nxt by omega), if_neg (show ¬ b = H.nxt + 1 by omega), if_neg (show ¬ b = H.nxt + 2 by omega), if_neg (show ¬ b = H.nxt + 1 + 1 by omega)]) (by simp only [nxt_new]; omega)))
  · have dnow : decide (w.now = 1000000000) = false := decide_eq_false hnow
    have hbj : ¬ (jobOf w t).busy = true := fun h => hbusy ⟨h, hnow⟩
    have hbn : (!(w.jobs[t]).busy) = true := by rw [← ej]; simpa using hbj
    repeat' (first | simp -implicitDefEqProofs only [go_sem] | (simp -implicitDefEqProofs (disch := omega) only [Int.toNat_natCast, lc, cc, lj, cj, lt, ct, ll, cl, dnow, hbn, wr_succ, wr_zero, wr_none, set_set, Bool.and_self, if_true]) | (refine aixs_sln hjs ?_) | (refine aK_slw hjs hltj ?_; intro cs hcs; obtain ⟨y1, y2, rfl, hy1, hy2, -⟩ := JobD.out hcs) | (refine aixs_sln hts ?_) | (refine aK_slw hts hltt ?_; rintro _ ⟨yo, rfl, hyo⟩) | (refine abi_len_sl' hyo ?_) | refine agrd_decf (fun _ => ?_) (fun _ => ?_) | refine afa_sl (by assumption) ?_ | rw [SlR.leaf (by assumption)] | simp -implicitDefEqProofs (disch := omega) only [wrap_in, u8_small, Int.tmod_eq_emod_of_nonneg, Int.tdiv_eq_ediv_of_nonneg])
    all_goals first
      | (have hst : stepD w t = w := by
           unfold stepD; rw [if_neg hnow, if_neg hbj]
           refine if_pos ?_
           first
             | (exact .inr (by assumption))
             | (left; rw [et]; exact List.eq_nil_of_length_eq_zero (by omega))
         exact retK_one (fin hst _ (fun b hb => by simp only [blk_new, nxt_new, if_neg (show ¬ b = H.nxt by omega), if_neg (show ¬ b = H.nxt + 1 by omega), if_neg (show ¬ b = H.nxt + 2 by omega), if_neg (show ¬ b = H.nxt + 1 + 1 by omega)]) (by simp only [nxt_new]; omega)))
      | skip
    all_goals (
      have h1 : opsAt w t ≠ [] := by rw [et]; intro h; have h2 : w.todo[t].ops.length = 0 := by rw [h]; rfl
                                     omega
      have h2 : ¬ w.serial = 1000000 := by assumption
      have hst : stepD w t = startD { w with now := w.now + 1 } t := by unfold stepD; rw [if_neg hnow, if_neg hbj, if_neg (by rintro (h | h); exact h1 h; exact h2 h)]
      have hw1 : Own.own H S (wcs vc vj vt vl { w with now := w.now + 1 }) { w with now := w.now + 1 } := by
        obtain ⟨v1, v2, v3, v4, q1, q2, q3, q4, e1, e2, r1, r2, r3, r4, r5, r6⟩ := ho0
        simp only [wcs, List.cons.injEq, and_true] at e2
        obtain ⟨rfl, rfl, rfl, rfl, -⟩ := e2
        exact ⟨_, _, _, _, q1, q2, q3, q4, e1, rfl, r1, r2, r3, r4, r5, by show inI64 (w.now + 1); simp only [inI64]; omega⟩
      refine ACallK.of (l11Start_ok W0 _ { w with now := w.now + 1 } t S _ (Own.sub hw1 (by exact by repeat (first | exact Sub.refl _ | assumption | refine Sub.new hc.1 ?_ _ _ | refine Sub.set hc.1 ?_ (by omega) _ | refine Sub.trans ?_ (by assumption)))) hnd jl tl ht h1 hl sok).cl ?_
      rintro _ H2 ⟨⟨cs2, S2, rfl, o2, g2⟩, k2⟩
      have a1 := g2.2.1 (H.nxt + 1) _ (fun hm => by have := hw.lt' (hS _ hm); omega) (by simp only [go_sem]; rfl)
      have hc2 : cs2.length = 6 := Ob.len (Own.rep (W0 := W0) o2)
      have lf2 : cs2.all leafA = true := Ob.leaf (Own.rep (W0 := W0) o2)
      have g3 := g2.start (H := H) (by exact by repeat (first | exact Sub.refl _ | assumption | refine Sub.new hc.1 ?_ _ _ | refine Sub.set hc.1 ?_ (by omega) _ | refine Sub.trans ?_ (by assumption)))
      have tk : cs2.take 6 = cs2 := List.take_of_length_le (by omega)
      repeat' (first | simp -implicitDefEqProofs only [go_sem] | (simp -implicitDefEqProofs only [a1, hc2, lf2, tk, blk_set_self, wr_succ, wr_zero, wr_none, set_set, List.drop_zero, Nat.le_refl]) | (rw [wr_all _ _ (by rw [hc2]; rfl)]) | fail)
      rw [hst]
      have hS2 : ∀ b ∈ S2, b ≠ H.nxt + 1 := fun b hb => by
        rcases g2.2.2.1 b hb with h | h
        · have := hw.lt' (hS _ h); omega
        · simp only [go_sem] at h; omega
      exact retK_one ⟨_, S2, rfl, Own.eq o2 (fun b hb => blk_set_ne _ (hS2 b hb) _), g3.setNew hw (by omega) _⟩)
end Go.Proofs.YtipfnhfcoolhaaaGreat.Aw
end
section
namespace Go.Proofs.YtipfnhfcoolhaaaGreat.Aw
open Go Go.RowKit
set_option maxRecDepth 100000
set_option maxHeartbeats 4000000
attribute [-go_sem] wr_eq
theorem fresh4 {n b a0 a1 b0 b1 c0 c1 : Nat} {A B C : List Nat} (hA : A.Nodup) (hB : B.Nodup) (hC : C.Nodup) (A0 : ∀ x ∈ A, a0 ≤ x ∧ x < a1) (B0 : ∀ x ∈ B, b0 ≤ x ∧ x < b1) (C0 : ∀ x ∈ C, c0 ≤ x ∧ x < c1) (h1 : a1 ≤ b0) (h2 : b1 ≤ c0) (h3 : n ≤ a0) (h4 : n ≤ b) (h5 : a0 ≤ a1) (h6 : b0 ≤ b1) (g1 : b < a0 ∨ a1 ≤ b) (g2 : b < b0 ∨ b1 ≤ b) (g3 : b < c0 ∨ c1 ≤ b) : Fresh n (b :: (A ++ (B ++ C))) := by
  refine ⟨?_, ?_⟩
  · simp only [List.nodup_cons, List.nodup_append, List.mem_append]
    refine ⟨?_, hA, ⟨hB, hC, ?_⟩, ?_⟩
    · rintro (h | h | h)
      · have := A0 _ h; omega
      · have := B0 _ h; omega
      · have := C0 _ h; omega
    · intro x hx y hy; have := B0 _ hx; have := C0 _ hy; omega
    · rintro x hx y (hy | hy)
      · have := A0 _ hx; have := B0 _ hy; omega
      · have := A0 _ hx; have := C0 _ hy; omega
  · intro x hx
    simp only [List.mem_cons, List.mem_append] at hx
    rcases hx with rfl | h | h | h
    · exact h4
    · have := A0 _ h; omega
    · have := B0 _ h; omega
    · have := C0 _ h; omega
def CpQ (H G : AH) (w : WorldD) (e1 : Env) (G1 : AH) : Prop := G1.wf ∧ Sub G G1 ∧ (e1 1 = .ptr H.nxt 0 ∧ e1 2 = .ptr (H.nxt + 1) 0) ∧ ∃ b vc vt vl Sc St Sl, e1 3 = .ptr b 0 ∧ G1.blk b = some ⟨[vc, .v (.slice none 0 0), vt, vl, .v (.int .i64 w.serial), .v (.int .i64 w.now)], 6⟩ ∧ OwnS G1 Sc vc w.cells ∧ OwnS G1 St vt w.todo ∧ OwnS G1 Sl vl w.log ∧ Fresh G.nxt (b :: (Sc ++ (St ++ Sl)))
theorem l10Copy_ok (W0 : World) (cs : List AV) (w : WorldD) (H : AH) (hx : Ob.rep W0 H cs w) (hb : WB w) : ACalls Tryz.prog W0 66 [.agg cs] H (fun u H' => NewV H H' u w) := by
  refine acallw Tryz.func66 rfl (by kernel_rfl) (by kernel_rfl) fun hc hw => ?_
  obtain ⟨xc, xj, xt, xl, rfl, f1, f2, f3, f4, is, inw⟩ := hx
  have c1 := f1.one; have c2 := f2.one; have c3 := f3.one; have c4 := f4.one
  have p1 := f1.leaf; have p2 := f2.leaf; have p3 := f3.leaf; have p4 := f4.leaf
  repeat' (first | simp -implicitDefEqProofs only [go_sem] | (refine adraw_cut (CpQ H ((H.new [xc, xj, xt, xl, AV.v (Value.int IntKind.i64 w.serial), AV.v (Value.int IntKind.i64 w.now)] 6).new [.v (.slice none 0 0), .v (.slice none 0 0), .v (.slice none 0 0), .v (.slice none 0 0), .v (.int .i64 0), .v (.int .i64 0)] 6) w) ?_ ?_))
  all_goals obtain ⟨G, hG⟩ : ∃ G, G = (H.new [xc, xj, xt, xl, AV.v (Value.int IntKind.i64 w.serial), AV.v (Value.int IntKind.i64 w.now)] 6).new [.v (.slice none 0 0), .v (.slice none 0 0), .v (.slice none 0 0), .v (.slice none 0 0), .v (.int .i64 0), .v (.int .i64 0)] 6 := ⟨_, rfl⟩
  all_goals rw [← hG]
  all_goals have wG : G.wf := by rw [hG]; exact (hw.new _ _).new _ _
  all_goals have sG : Sub H G := by rw [hG]; exact ((Sub.refl _).new hw _ _).trans ((Sub.refl _).new (hw.new _ _) _ _)
  all_goals have bm : G.blk H.nxt = some ⟨[xc, xj, xt, xl, AV.v (Value.int IntKind.i64 w.serial), AV.v (Value.int IntKind.i64 w.now)], 6⟩ := by rw [hG]; simp only [go_sem]
  all_goals have br : G.blk (H.nxt + 1) = some ⟨[.v (.slice none 0 0), .v (.slice none 0 0), .v (.slice none 0 0), .v (.slice none 0 0), .v (.int .i64 0), .v (.int .i64 0)], 6⟩ := by rw [hG]; simp only [go_sem]
  all_goals have hGn : G.nxt = H.nxt + 2 := by rw [hG]; rfl
  all_goals clear hG
  · constructor
    have z0 : Sub G G := Sub.refl _
    have nb : ¬ H.nxt = G.nxt := by omega
    repeat' (first | simp -implicitDefEqProofs only [go_sem] | (simp -implicitDefEqProofs only [bm, c1, c2, c3, c4, p1, p2, p3, p4, wr_succ, wr_zero, wr_none, set_set, Bool.and_self, if_false, nb]) | ((with_reducible refine adraw_tree (.node [0, 1, 3, 4, 6, 7, 9, 10, 11, 12] [(2, [3, 4, 6, 7, 9, 10, 11, 12], (.node [] [(5, [6, 7, 9, 10, 11, 12], (.node [] [(8, [9, 10, 11, 12], (.node [13] [(14, [0, 1, 3, 4, 6, 7, 9, 10, 11, 12, 13], (.node [] [(15, [], (.node [] []))]))])), (14, [0, 1, 3, 4, 6, 7, 9, 10, 11, 12], (.node [] [(8, [9, 10, 11, 12], (.node [13] [(15, [], (.node [] []))]))]))])), (14, [0, 1, 3, 4, 6, 7, 9, 10, 11, 12], (.node [] [(5, [6, 7, 9, 10, 11, 12], (.node [] [(8, [9, 10, 11, 12], (.node [13] [(15, [], (.node [] []))]))]))]))])), (14, [0, 1, 3, 4, 6, 7, 9, 10, 11, 12], (.node [] [(2, [3, 4, 6, 7, 9, 10, 11, 12], (.node [] [(5, [6, 7, 9, 10, 11, 12], (.node [] [(8, [9, 10, 11, 12], (.node [13] [(15, [], (.node [] []))]))]))]))]))]) ?_ ?_ ?_); (· kernel_rfl); (· decide +kernel)) | (with_reducible refine And.intro ?_ ?_))
    · skip
      refine ACallK.of (l2Copy_ok _ xc w.cells _ (f1.sub (sG.trans z0)) (by have := hb.cl; omega)).cl ?_
      rintro u0 K0 ⟨⟨s0, S0, o0, F0⟩, k0⟩
      have zK0 : Sub G K0 := z0.trans s0
      have bm := s0.2 _ _ bm
      have eK0 : G.nxt ≤ K0.nxt := s0.1
      have q0 : ∀ x ∈ S0, G.nxt ≤ x ∧ x < K0.nxt := fun x hx => ⟨F0.2 x hx, k0.1.lt' (o0.isin x hx)⟩
      have l0 := o0.leaf; have n0 := o0.one
      have nb : ¬ H.nxt = K0.nxt := by omega
      repeat' (first | simp -implicitDefEqProofs only [go_sem] | (simp -implicitDefEqProofs only [bm, c1, c2, c3, c4, p1, p2, p3, p4, wr_succ, wr_zero, wr_none, set_set, Bool.and_self, if_false, l0, n0, nb]) | (with_reducible refine And.intro ?_ ?_))
      · skip
        refine ACallK.of (l10Queues_ok _ xt w.todo _ (f3.sub (sG.trans zK0)) hb.tl hb.tq).cl ?_
        rintro u1 K1 ⟨⟨s1, S1, o1, F1⟩, k1⟩
        have zK1 : Sub G K1 := zK0.trans s1
        have bm := s1.2 _ _ bm
        have eK1 : K0.nxt ≤ K1.nxt := s1.1
        have q1 : ∀ x ∈ S1, K0.nxt ≤ x ∧ x < K1.nxt := fun x hx => ⟨F1.2 x hx, k1.1.lt' (o1.isin x hx)⟩
        have l1 := o1.leaf; have n1 := o1.one
        have o0 := o0.sub s1
        have nb : ¬ H.nxt = K1.nxt := by omega
        repeat' (first | simp -implicitDefEqProofs only [go_sem] | (simp -implicitDefEqProofs only [bm, c1, c2, c3, c4, p1, p2, p3, p4, wr_succ, wr_zero, wr_none, set_set, Bool.and_self, if_false, l0, n0, l1, n1, nb]) | (with_reducible refine And.intro ?_ ?_))
        · skip
          refine ACallK.of (l10Log_ok _ xl w.log _ (f4.sub (sG.trans zK1)) hb.ll hb.lr).cl ?_
          rintro u2 K2 ⟨⟨s2, S2, o2, F2⟩, k2⟩
          have zK2 : Sub G K2 := zK1.trans s2
          have bm := s2.2 _ _ bm
          have eK2 : K1.nxt ≤ K2.nxt := s2.1
          have q2 : ∀ x ∈ S2, K1.nxt ≤ x ∧ x < K2.nxt := fun x hx => ⟨F2.2 x hx, k2.1.lt' (o2.isin x hx)⟩
          have l2 := o2.leaf; have n2 := o2.one
          have o0 := o0.sub s2
          have o1 := o1.sub s2
          have nb : ¬ H.nxt = K2.nxt := by omega
          repeat' (first | simp -implicitDefEqProofs only [go_sem] | (simp -implicitDefEqProofs only [bm, c1, c2, c3, c4, p1, p2, p3, p4, wr_succ, wr_zero, wr_none, set_set, Bool.and_self, if_false, l0, n0, l1, n1, l2, n2, nb]))
          have sf := (Sub.refl K2).new k2.1 [u0, .v (.slice none 0 0), u1, u2, .v (.int .i64 w.serial), .v (.int .i64 w.now)] 6
          exact ⟨(k2.1).new _ _, (zK2).trans sf, ⟨by simp only [go_sem], by simp only [go_sem]⟩, K2.nxt, u0, u1, u2, S0, S1, S2, by simp only [go_sem], blk_new_self _ _ _, o0.sub sf, o1.sub sf, o2.sub sf, fresh4 F0.1 F1.1 F2.1 q0 q1 q2 (by omega) (by omega) (by omega) (by omega) (by omega) (by omega) (by omega) (by omega) (by omega)⟩
        · skip
          obtain ⟨X2, hX2⟩ : ∃ X, X = K1.new [.v (.slice none 0 0), .v (.slice none 0 0), .v (.slice none 0 0), .v (.slice none 0 0), .v (.int .i64 0), .v (.int .i64 0)] 6 := ⟨_, rfl⟩
          rw [← hX2]
          have wX2 : X2.wf := by rw [hX2]; exact (k1.1).new _ _
          have sX2 : Sub K1 X2 := by rw [hX2]; exact (Sub.refl _).new k1.1 _ _
          have xb : X2.blk K1.nxt = some ⟨[.v (.slice none 0 0), .v (.slice none 0 0), .v (.slice none 0 0), .v (.slice none 0 0), .v (.int .i64 0), .v (.int .i64 0)], 6⟩ := by rw [hX2]; exact blk_new_self _ _ _
          have hx2 : X2.nxt = K1.nxt + 1 := by rw [hX2]; rfl
          clear hX2
          have zX2 : Sub G X2 := zK1.trans sX2
          have bm := sX2.2 _ _ bm
          have o0 := o0.sub sX2
          have o1 := o1.sub sX2
          refine ACallK.of (l10Log_ok _ xl w.log _ (f4.sub (sG.trans zX2)) hb.ll hb.lr).cl ?_
          rintro u2 K2 ⟨⟨s2, S2, o2, F2⟩, k2⟩
          have zK2 : Sub G K2 := zX2.trans s2
          have bm := s2.2 _ _ bm
          have eK2 : X2.nxt ≤ K2.nxt := s2.1
          have q2 : ∀ x ∈ S2, X2.nxt ≤ x ∧ x < K2.nxt := fun x hx => ⟨F2.2 x hx, k2.1.lt' (o2.isin x hx)⟩
          have l2 := o2.leaf; have n2 := o2.one
          have o0 := o0.sub s2
          have o1 := o1.sub s2
          have xb := s2.2 _ _ xb
          have nb : ¬ H.nxt = K2.nxt := by omega
          repeat' (first | simp -implicitDefEqProofs only [go_sem] | (simp -implicitDefEqProofs only [bm, c1, c2, c3, c4, p1, p2, p3, p4, wr_succ, wr_zero, wr_none, set_set, Bool.and_self, if_false, l0, n0, l1, n1, l2, n2, xb, nb]))
          have hS : ∀ x, (x ∈ S0 ∨ x ∈ S1 ∨ x ∈ S2) → x ≠ K1.nxt := by rintro x (h | h | h); (have := q0 x h; omega); (have := q1 x h; omega); (have := q2 x h; omega)
          exact ⟨(k2.1).set ((k2.1).lt xb) _, (zK2).set wG (by omega) _, ⟨by simp only [go_sem], by simp only [go_sem]⟩, K1.nxt, u0, u1, u2, S0, S1, S2, by simp only [go_sem], blk_set_self _ _ _, o0.setne (fun x hx => hS x (.inl hx)), o1.setne (fun x hx => hS x (.inr (.inl hx))), o2.setne (fun x hx => hS x (.inr (.inr hx))), fresh4 F0.1 F1.1 F2.1 q0 q1 q2 (by omega) (by omega) (by omega) (by omega) (by omega) (by omega) (by omega) (by omega) (by omega)⟩
      · skip
        obtain ⟨X1, hX1⟩ : ∃ X, X = K0.new [.v (.slice none 0 0), .v (.slice none 0 0), .v (.slice none 0 0), .v (.slice none 0 0), .v (.int .i64 0), .v (.int .i64 0)] 6 := ⟨_, rfl⟩
        rw [← hX1]
        have wX1 : X1.wf := by rw [hX1]; exact (k0.1).new _ _
        have sX1 : Sub K0 X1 := by rw [hX1]; exact (Sub.refl _).new k0.1 _ _
        have xb : X1.blk K0.nxt = some ⟨[.v (.slice none 0 0), .v (.slice none 0 0), .v (.slice none 0 0), .v (.slice none 0 0), .v (.int .i64 0), .v (.int .i64 0)], 6⟩ := by rw [hX1]; exact blk_new_self _ _ _
        have hx1 : X1.nxt = K0.nxt + 1 := by rw [hX1]; rfl
        clear hX1
        have zX1 : Sub G X1 := zK0.trans sX1
        have bm := sX1.2 _ _ bm
        have o0 := o0.sub sX1
        refine ACallK.of (l10Queues_ok _ xt w.todo _ (f3.sub (sG.trans zX1)) hb.tl hb.tq).cl ?_
        rintro u1 K1 ⟨⟨s1, S1, o1, F1⟩, k1⟩
        have zK1 : Sub G K1 := zX1.trans s1
        have bm := s1.2 _ _ bm
        have eK1 : X1.nxt ≤ K1.nxt := s1.1
        have q1 : ∀ x ∈ S1, X1.nxt ≤ x ∧ x < K1.nxt := fun x hx => ⟨F1.2 x hx, k1.1.lt' (o1.isin x hx)⟩
        have l1 := o1.leaf; have n1 := o1.one
        have o0 := o0.sub s1
        have xb := s1.2 _ _ xb
        have nb : ¬ H.nxt = K1.nxt := by omega
        repeat' (first | simp -implicitDefEqProofs only [go_sem] | (simp -implicitDefEqProofs only [bm, c1, c2, c3, c4, p1, p2, p3, p4, wr_succ, wr_zero, wr_none, set_set, Bool.and_self, if_false, l0, n0, l1, n1, xb, nb]))
        refine ACallK.of (l10Log_ok _ xl w.log _ (f4.sub (sG.trans zK1)) hb.ll hb.lr).cl ?_
        rintro u2 K2 ⟨⟨s2, S2, o2, F2⟩, k2⟩
        have zK2 : Sub G K2 := zK1.trans s2
        have bm := s2.2 _ _ bm
        have eK2 : K1.nxt ≤ K2.nxt := s2.1
        have q2 : ∀ x ∈ S2, K1.nxt ≤ x ∧ x < K2.nxt := fun x hx => ⟨F2.2 x hx, k2.1.lt' (o2.isin x hx)⟩
        have l2 := o2.leaf; have n2 := o2.one
        have o0 := o0.sub s2
        have o1 := o1.sub s2
        have xb := s2.2 _ _ xb
        have nb : ¬ H.nxt = K2.nxt := by omega
        repeat' (first | simp -implicitDefEqProofs only [go_sem] | (simp -implicitDefEqProofs only [bm, c1, c2, c3, c4, p1, p2, p3, p4, wr_succ, wr_zero, wr_none, set_set, Bool.and_self, if_false, l0, n0, l1, n1, l2, n2, xb, nb]))
        have hS : ∀ x, (x ∈ S0 ∨ x ∈ S1 ∨ x ∈ S2) → x ≠ K0.nxt := by rintro x (h | h | h); (have := q0 x h; omega); (have := q1 x h; omega); (have := q2 x h; omega)
        exact ⟨(k2.1).set ((k2.1).lt xb) _, (zK2).set wG (by omega) _, ⟨by simp only [go_sem], by simp only [go_sem]⟩, K0.nxt, u0, u1, u2, S0, S1, S2, by simp only [go_sem], blk_set_self _ _ _, o0.setne (fun x hx => hS x (.inl hx)), o1.setne (fun x hx => hS x (.inr (.inl hx))), o2.setne (fun x hx => hS x (.inr (.inr hx))), fresh4 F0.1 F1.1 F2.1 q0 q1 q2 (by omega) (by omega) (by omega) (by omega) (by omega) (by omega) (by omega) (by omega) (by omega)⟩
    · skip
      obtain ⟨X0, hX0⟩ : ∃ X, X = G.new [.v (.slice none 0 0), .v (.slice none 0 0), .v (.slice none 0 0), .v (.slice none 0 0), .v (.int .i64 0), .v (.int .i64 0)] 6 := ⟨_, rfl⟩
      rw [← hX0]
      have wX0 : X0.wf := by rw [hX0]; exact (wG).new _ _
      have sX0 : Sub G X0 := by rw [hX0]; exact (Sub.refl _).new wG _ _
      have xb : X0.blk G.nxt = some ⟨[.v (.slice none 0 0), .v (.slice none 0 0), .v (.slice none 0 0), .v (.slice none 0 0), .v (.int .i64 0), .v (.int .i64 0)], 6⟩ := by rw [hX0]; exact blk_new_self _ _ _
      have hx0 : X0.nxt = G.nxt + 1 := by rw [hX0]; rfl
      clear hX0
      have zX0 : Sub G X0 := z0.trans sX0
      have bm := sX0.2 _ _ bm
      refine ACallK.of (l2Copy_ok _ xc w.cells _ (f1.sub (sG.trans zX0)) (by have := hb.cl; omega)).cl ?_
      rintro u0 K0 ⟨⟨s0, S0, o0, F0⟩, k0⟩
      have zK0 : Sub G K0 := zX0.trans s0
      have bm := s0.2 _ _ bm
      have eK0 : X0.nxt ≤ K0.nxt := s0.1
      have q0 : ∀ x ∈ S0, X0.nxt ≤ x ∧ x < K0.nxt := fun x hx => ⟨F0.2 x hx, k0.1.lt' (o0.isin x hx)⟩
      have l0 := o0.leaf; have n0 := o0.one
      have xb := s0.2 _ _ xb
      have nb : ¬ H.nxt = K0.nxt := by omega
      repeat' (first | simp -implicitDefEqProofs only [go_sem] | (simp -implicitDefEqProofs only [bm, c1, c2, c3, c4, p1, p2, p3, p4, wr_succ, wr_zero, wr_none, set_set, Bool.and_self, if_false, l0, n0, xb, nb]))
      refine ACallK.of (l10Queues_ok _ xt w.todo _ (f3.sub (sG.trans zK0)) hb.tl hb.tq).cl ?_
      rintro u1 K1 ⟨⟨s1, S1, o1, F1⟩, k1⟩
      have zK1 : Sub G K1 := zK0.trans s1
      have bm := s1.2 _ _ bm
      have eK1 : K0.nxt ≤ K1.nxt := s1.1
      have q1 : ∀ x ∈ S1, K0.nxt ≤ x ∧ x < K1.nxt := fun x hx => ⟨F1.2 x hx, k1.1.lt' (o1.isin x hx)⟩
      have l1 := o1.leaf; have n1 := o1.one
      have o0 := o0.sub s1
      have xb := s1.2 _ _ xb
      have nb : ¬ H.nxt = K1.nxt := by omega
      repeat' (first | simp -implicitDefEqProofs only [go_sem] | (simp -implicitDefEqProofs only [bm, c1, c2, c3, c4, p1, p2, p3, p4, wr_succ, wr_zero, wr_none, set_set, Bool.and_self, if_false, l0, n0, l1, n1, xb, nb]))
      refine ACallK.of (l10Log_ok _ xl w.log _ (f4.sub (sG.trans zK1)) hb.ll hb.lr).cl ?_
      rintro u2 K2 ⟨⟨s2, S2, o2, F2⟩, k2⟩
      have zK2 : Sub G K2 := zK1.trans s2
      have bm := s2.2 _ _ bm
      have eK2 : K1.nxt ≤ K2.nxt := s2.1
      have q2 : ∀ x ∈ S2, K1.nxt ≤ x ∧ x < K2.nxt := fun x hx => ⟨F2.2 x hx, k2.1.lt' (o2.isin x hx)⟩
      have l2 := o2.leaf; have n2 := o2.one
      have o0 := o0.sub s2
      have o1 := o1.sub s2
      have xb := s2.2 _ _ xb
      have nb : ¬ H.nxt = K2.nxt := by omega
      repeat' (first | simp -implicitDefEqProofs only [go_sem] | (simp -implicitDefEqProofs only [bm, c1, c2, c3, c4, p1, p2, p3, p4, wr_succ, wr_zero, wr_none, set_set, Bool.and_self, if_false, l0, n0, l1, n1, l2, n2, xb, nb]))
      have hS : ∀ x, (x ∈ S0 ∨ x ∈ S1 ∨ x ∈ S2) → x ≠ G.nxt := by rintro x (h | h | h); (have := q0 x h; omega); (have := q1 x h; omega); (have := q2 x h; omega)
      exact ⟨(k2.1).set ((k2.1).lt xb) _, (zK2).set wG (by omega) _, ⟨by simp only [go_sem], by simp only [go_sem]⟩, G.nxt, u0, u1, u2, S0, S1, S2, by simp only [go_sem], blk_set_self _ _ _, o0.setne (fun x hx => hS x (.inl hx)), o1.setne (fun x hx => hS x (.inr (.inl hx))), o2.setne (fun x hx => hS x (.inr (.inr hx))), fresh4 F0.1 F1.1 F2.1 q0 q1 q2 (by omega) (by omega) (by omega) (by omega) (by omega) (by omega) (by omega) (by omega) (by omega)⟩
  · constructor
    intro e1 G1 hQ
    obtain ⟨wG1, zG1, ⟨r1, r2⟩, b, vc, vt, vl, Sc, St, Sl, r3, bb, oc, ot, ol, fr⟩ := hQ
    have bm1 := zG1.2 _ _ bm
    have br1 := zG1.2 _ _ br
    have hfr : ∀ x ∈ b :: (Sc ++ (St ++ Sl)), H.nxt + 2 ≤ x ∧ x < G1.nxt := fun x hx => ⟨hGn ▸ fr.2 x hx, by
      simp only [List.mem_cons, List.mem_append] at hx
      rcases hx with rfl | h | h | h
      · exact wG1.lt bb
      · exact wG1.lt' (oc.isin x h)
      · exact wG1.lt' (ot.isin x h)
      · exact wG1.lt' (ol.isin x h)⟩
    have hb0 := hfr b (List.mem_cons_self ..)
    have n0 : ¬ H.nxt = b := by omega
    have n1 : ¬ H.nxt + 1 = b := by omega
    skip
    refine acode_while (fun i : Nat => [(1, .ptr H.nxt 0), (2, .ptr (H.nxt + 1) 0), (3, .ptr b 0), (4, .v (.int .i64 i))]) (fun i H' => H'.wf ∧ (G1.nxt ≤ H'.nxt ∧ ∀ x B, x ≠ b → G1.blk x = some B → H'.blk x = some B) ∧ i ≤ w.jobs.length ∧ ∃ vj S, H'.blk b = some ⟨[vc, vj, vt, vl, .v (.int .i64 w.serial), .v (.int .i64 w.now)], 6⟩ ∧ OwnS H' S vj (w.jobs.take i) ∧ S.Nodup ∧ ∀ x ∈ S, G1.nxt ≤ x) (fun i => w.jobs.length - i) 0 ?_ ?_ (by simp only [frOk, go_sem, r1, r2, r3]; simp)
    · exact ⟨wG1, ⟨Nat.le_refl _, fun _ _ _ h => h⟩, Nat.zero_le _, _, [], bb, ownS_none _, List.nodup_nil, fun _ h => by cases h⟩
    rintro i H' ⟨hw', ⟨hn', hk'⟩, hi, vj, S, hB, ho, hn, hS⟩
    have hs : Sub H H' := ⟨by omega, fun x B hX => hk' x B (by have := hw.lt hX; omega) (zG1.2 _ _ (sG.2 _ _ hX))⟩
    have bm2 := hk' _ _ (by omega) bm1
    have br2 := hk' _ _ (by omega) br1
    have hlt : ∀ x ∈ S, x < H'.nxt := fun x hx => hw'.lt' (ho.isin x hx)
    have hlt0 := hw'.lt hB
    have lvj := ho.leaf; have cvj := ho.one
    have lvc := oc.leaf; have cvc := oc.one
    have lvt := ot.leaf; have cvt := ot.one
    have lvl := ol.leaf; have cvl := ol.one
    have nn0 : ¬ H.nxt = H'.nxt := by omega
    have hjl := hb.jl
    rcases Nat.lt_or_ge i w.jobs.length with hlt2 | hge
    · have hlen : (w.jobs.take i).length ≤ 10000000 := by simp; omega
      have hri := hb.jk _ (List.getElem_mem hlt2)
      repeat' (first | simp -implicitDefEqProofs only [go_sem] | (simp -implicitDefEqProofs only [hB, bm2, br2, n0, n1]) | (refine abi_len_sl' f2 ?_) | (refine aK_slw f2 hlt2 ?_; intro cs hcs) | refine acond_decT (by omega) ?_ | refine aixs_sln (by assumption) ?_ | ((with_reducible refine adraw_plan [(0, []), (1, []), (2, []), (3, []), (4, []), (5, []), (6, []), (7, [0, 1]), (8, [0, 1]), (9, []), (10, []), (11, [])] ?_ ?_ ?_); (· kernel_rfl); (· decide +kernel)))
      refine ACallK.of (l10Job_ok _ _ w.jobs[i] _ (Ob.sub (by assumption) hcs) hri).cl ?_
      rintro _ H2 ⟨⟨s2, S2, c2, rfl, w2, F2⟩, k2⟩
      have hw2 := k2.1
      have hcl2 : c2.length = 18 := Ob.len (Own.rep (W0 := W0) w2)
      have lf2 : c2.all leafA = true := Ob.leaf (Own.rep (W0 := W0) w2)
      have hF : ∀ x ∈ S2, H'.nxt ≤ x := fun x hx => F2.2 x hx
      have e2 : H'.nxt ≤ H2.nxt := s2.1
      have hB2 := s2.2 _ _ hB
      have bm3 := s2.2 _ _ bm2
      have nb2 : ¬ b = H2.nxt := fun h => by have := hw2.lt hB2; omega
      have nb3 : ¬ H.nxt = H2.nxt := fun h => by have := hw2.lt bm3; omega
      repeat' (first | simp -implicitDefEqProofs only [go_sem] | (simp only [hcl2]) | (simp -implicitDefEqProofs only [hB2, bm3, nb2, nb3, if_false]) | (refine app_one (x := w.jobs[i]) (S2 := S2) (ho.sub (s2.trans ((Sub.refl _).new hw2 _ _))) (Own.sub w2 ((Sub.refl _).new hw2 _ _)) (nd_lt hn F2.1 hlt hF) (hw2.new _ _) (by simp only [go_sem]) (fun hm => absurd (hlt _ hm) (by omega)) ?_; intro H3 S3 v3 w3 o3 u3 l3) | fail)
      have bN : b ∉ S ++ S2 := fun hm => (List.mem_append.1 hm).elim (fun h => by have := hS _ h; omega) (fun h => by have := hF _ h; omega)
      have h4 := u3.start (H := H') (s2.trans ((Sub.refl _).new hw2 _ _))
      have hB3 := h4.2.1 b _ bN hB
      have lv3 := o3.leaf; have cv3 := o3.one
      repeat' (first | simp -implicitDefEqProofs only [go_sem] | (simp -implicitDefEqProofs only [hB3, lv3, cv3, wr_succ, wr_zero, wr_none, set_set]) | simp -implicitDefEqProofs (disch := omega) only [wrap_in, u8_small, Int.tmod_eq_emod_of_nonneg, Int.tdiv_eq_ediv_of_nonneg])
      have hS3 : ∀ x ∈ S3, G1.nxt ≤ x := fun x hx => (h4.2.2.1 x hx).elim (fun h => (List.mem_append.1 h).elim (hS x) (fun h => by have := hF x h; omega)) (fun h => by omega)
      refine back (i + 1) ⟨w3.set (w3.lt hB3) _, ⟨Nat.le_trans hn' h4.1, fun x B hX hG1 => ?_⟩, by omega, v3, S3, (by first | exact blk_set_self _ _ _ | rfl | simp only [if_true]), ?_, h4.2.2.2, hS3⟩ (by omega)
      · (first | rw [blk_set_ne _ hX] | rw [if_neg hX])
        exact h4.2.1 x B (fun hm => by have := wG1.lt hG1; exact (List.mem_append.1 hm).elim (fun h => by have := hS _ h; omega) (fun h => by have := hF _ h; omega)) (hk' x B hX hG1)
      · rw [List.take_succ_eq_append_getElem hlt2]; exact o3.setne (fun x hx => by have := hS3 x hx; omega)
    · obtain rfl : i = w.jobs.length := by omega
      rw [List.take_length] at ho
      repeat' (first | simp -implicitDefEqProofs only [go_sem] | (simp -implicitDefEqProofs only [hB, bm2, br2, n0, n1, lvj, cvj, lvc, cvc, lvt, cvt, lvl, cvl, wr_succ, wr_zero, wr_none, set_set, Bool.and_self]) | (refine abi_len_sl' f2 ?_) | refine acond_decF (by omega) ?_ | fail)
      have hk2 : ∀ x ∈ Sc ++ (St ++ Sl), (G1.blk x).isSome = true → (H'.set (H.nxt + 1) ⟨[vc, vj, vt, vl, .v (.int .i64 w.serial), .v (.int .i64 w.now)], 6⟩).blk x = G1.blk x := fun x hx hs => by
        obtain ⟨B, hBx⟩ := Option.isSome_iff_exists.1 hs
        have := hfr x (List.mem_cons_of_mem _ hx)
        rw [blk_set_ne _ (by omega), hBx]
        exact hk' x B (fun e => (List.nodup_cons.1 fr.1).1 (e ▸ hx)) hBx
      refine retK_one ⟨hs.set hw (Nat.le_succ _) _, Sc ++ (S ++ (St ++ Sl)), _, rfl, ⟨vc, vj, vt, vl, Sc, S, St, Sl, rfl, rfl, oc.eq (fun x hx => hk2 x (List.mem_append_left _ hx) (oc.isin x hx)), ho.setne (fun x hx => by have := hS x hx; omega), ot.eq (fun x hx => hk2 x (List.mem_append_right _ (List.mem_append_left _ hx)) (ot.isin x hx)), ol.eq (fun x hx => hk2 x (List.mem_append_right _ (List.mem_append_right _ hx)) (ol.isin x hx)), is, inw⟩, ?_⟩
      refine ⟨?_, fun x hx => ?_⟩
      · have h1 := (List.nodup_cons.1 fr.1).2
        simp only [List.nodup_append, List.mem_append] at h1 ⊢
        have h2 : ∀ x ∈ S, G1.nxt ≤ x := hS
        have h3 : ∀ x, (x ∈ Sc ∨ x ∈ St ∨ x ∈ Sl) → x < G1.nxt := fun x hx => (hfr x (by simp only [List.mem_cons, List.mem_append]; exact .inr hx)).2
        grind
      · simp only [List.mem_append] at hx
        rcases hx with h | h | h | h
        · have := hfr x (by simp [h]); omega
        · have := hS x h; omega
        · have := hfr x (by simp [h]); omega
        · have := hfr x (by simp [h]); omega
end Go.Proofs.YtipfnhfcoolhaaaGreat.Aw
end
section
namespace Go.Proofs.YtipfnhfcoolhaaaGreat.Aw
open Go Go.RowKit
set_option maxRecDepth 100000
set_option maxHeartbeats 4000000
attribute [-go_sem] wr_eq
theorem Step_spec (W0 : World) (cs : List AV) (w : WorldD) (t : Int) (H : AH) (hx : Ob.rep W0 H cs w) (hb : WB w) (hl : LB 9000000 w) : ACalls Tryz.prog W0 27 [.agg cs, .v (.int .i64 t)] H (fun u H' => NewV H H' u (stepS w t)) := by
  refine acallw Tryz.func27 rfl (by kernel_rfl) (by kernel_rfl) fun hc hw => ?_
  have hx0 := hx
  obtain ⟨xc, xj, xt, xl, rfl, f1, f2, f3, f4, is, inw⟩ := hx0
  have c1 := f1.one; have c2 := f2.one; have c3 := f3.one; have c4 := f4.one
  have p1 := f1.leaf; have p2 := f2.leaf; have p3 := f3.leaf; have p4 := f4.leaf
  repeat' (first | simp -implicitDefEqProofs only [go_sem])
  refine ACallK.of (l10Copy_ok _ _ w _ (Ob.sub (by repeat (first | exact Sub.refl _ | assumption | refine Sub.new (by assumption) ?_ _ _ | refine Sub.kill_new (by assumption) ?_ _ _ | refine Sub.trans ?_ (by assumption))) hx) hb).cl ?_
  rintro _ H1 ⟨⟨s1, S1, d1, rfl, o1, F1⟩, k1⟩
  have z1 : Sub H H1 := Sub.trans (by repeat (first | exact Sub.refl _ | assumption | refine Sub.new (by assumption) ?_ _ _ | refine Sub.kill_new (by assumption) ?_ _ _ | refine Sub.trans ?_ (by assumption))) s1
  have n1 := s1.1; simp only [go_sem] at n1
  have hF1 := F1.2; simp only [go_sem] at hF1
  have q1 : d1.length = 6 := Ob.len (Own.rep (W0 := W0) o1)
  have l1 : d1.all leafA = true := Ob.leaf (Own.rep (W0 := W0) o1)
  have t1 : d1.take 6 = d1 := List.take_of_length_le (by omega)
  have bm := s1.2 H.nxt _ (by simp only [go_sem]; rfl)
  have br := s1.2 (H.nxt + 1) _ (by simp only [go_sem]; rfl)
  have e0 : ¬ H.nxt = H1.nxt := by omega
  have e1 : ¬ H.nxt + 1 = H1.nxt := by omega
  by_cases hv : worldOk w = true ∧ 0 ≤ t ∧ t ≤ 3
  · obtain ⟨n, rfl⟩ : ∃ n : Nat, t = n := ⟨t.toNat, by omega⟩
    have dv : decide (0 ≤ (n : Int) ∧ (n : Int) ≤ 3) = true := decide_eq_true hv.2
    repeat' (first | simp -implicitDefEqProofs only [go_sem] | (simp -implicitDefEqProofs only [bm, br, e0, e1, q1, t1, if_false, List.drop_zero, Nat.le_refl]) | (with_reducible refine And.intro l1 ?_) | (rw [wr_all _ _ (by rw [q1]; rfl)]) | (refine ACallK.eq (WorldOk_spec _ _ w _ (Ob.sub (z1.trans ((Sub.refl _).new k1.1 _ _)) hx)) ?_; rw [hv.1]) | (refine ACallK.eq (l1In_ok _ _ _ _ _) ?_; rw [dv]))
    refine ACallK.of (l11Do_ok _ d1 w n S1 _ (Own.sub o1 ((Sub.refl _).new k1.1 _ _)) F1.1 hv.1 (by omega) (by have := hl.1; omega)).cl ?_
    rintro _ H2 ⟨⟨d2, S2, rfl, o2, g2⟩, k2⟩
    have hst : stepS w n = stepD w n := by unfold stepS; rw [if_pos hv]; rfl
    have bm2 := g2.2.1 H.nxt _ (fun hm => by have := hF1 _ hm; omega) (by simp only [go_sem, e0, if_false]; exact bm)
    have br2 := g2.2.1 (H.nxt + 1) _ (fun hm => by have := hF1 _ hm; omega) (by simp only [go_sem, e1, if_false]; exact br)
    have z2 := (g2.sub hw (z1.trans ((Sub.refl _).new k1.1 _ _)) (fun b hb => by have := hF1 b hb; omega)).1
    have hok2 := stepD_ok hv.1 (show n < 4 by omega)
    repeat' (first | simp -implicitDefEqProofs only [go_sem])
    refine ACallK.of (l10Copy_ok _ d2 (stepD w n) _ (Own.rep o2) (wb_of hok2 ((stepD_lb hv.1 (show n < 4 by omega) hl).le (by omega)))).cl ?_
    rintro _ H3 ⟨⟨s3, S3, d3, rfl, o3, F3⟩, k3⟩
    have br3 := s3.2 _ _ br2
    have q3 : d3.length = 6 := Ob.len (Own.rep (W0 := W0) o3)
    have l3 : d3.all leafA = true := Ob.leaf (Own.rep (W0 := W0) o3)
    have t3 : d3.take 6 = d3 := List.take_of_length_le (by omega)
    repeat' (first | simp -implicitDefEqProofs only [go_sem] | (simp -implicitDefEqProofs only [br3, q3, t3, blk_set_self, if_false, List.drop_zero, Nat.le_refl]) | (with_reducible refine And.intro l3 ?_) | (rw [wr_all _ _ (by rw [q3]; rfl)]) | fail)
    rw [hst]
    have h3 := z2.1
    have h4 := k2.1.lt br2
    exact retK_one ⟨(z2.trans s3).set hw (Nat.le_succ _) _, S3, _, rfl, Own.eq o3 (fun b hb => blk_set_ne _ (by have := F3.2 b hb; omega) _), F3.le h3⟩
  · have hst : stepS w t = w := by unfold stepS; rw [if_neg hv]
    repeat' (first | simp -implicitDefEqProofs only [go_sem] | (simp -implicitDefEqProofs only [bm, br, e0, e1, q1, t1, blk_set_self, if_false, List.drop_zero, Nat.le_refl]) | (with_reducible refine And.intro l1 ?_) | (rw [wr_all _ _ (by rw [q1]; rfl)]) | (refine ACallK.eq (WorldOk_spec _ _ w _ (Ob.sub (z1.trans ((Sub.refl _).new k1.1 _ _)) hx)) ?_) | (refine ACallK.eq (l1In_ok _ _ _ _ _) ?_) | refine acond_ndec (fun _ => ?_) (fun _ => ?_) | refine agrd_bf (fun _ => ?_) (fun _ => ?_))
    all_goals first
      | (exfalso; simp_all; done)
      | (rw [hst]
         exact retK_one ⟨(z1.trans ((Sub.refl _).new k1.1 _ _)).set hw (Nat.le_succ _) _, S1, _, rfl, Own.eq (Own.sub o1 ((Sub.refl _).new k1.1 d1 6)) (fun b hb => blk_set_ne _ (by have := hF1 b hb; omega) _), F1.le (by simp only [go_sem]; omega)⟩)
      | (exfalso; rename_i h1 h2; first | exact hv ⟨by simpa using h1, by simpa using h2⟩ | (simp_all; omega))
      | trace_state
end Go.Proofs.YtipfnhfcoolhaaaGreat.Aw
end
section
namespace Go.Proofs.YtipfnhfcoolhaaaGreat.Aw
open Go
set_option maxHeartbeats 1000000
theorem cntL_each {α : Type} [Mk α] {B : Nat} : ∀ {l : List α}, (∀ x ∈ l, Mk.cnt x ≤ B) → cntL l ≤ l.length * B
  | [], _ => Nat.zero_le _
  | x :: l, h => by
    rw [cntL_cons]
    have h1 := h x (List.mem_cons_self ..)
    have h2 := cntL_each (l := l) fun y hy => h y (List.mem_cons_of_mem _ hy)
    rw [List.length_cons, Nat.add_mul, Nat.one_mul]; omega
theorem cntL_app {α : Type} [Mk α] (a b : List α) : cntL (a ++ b) = cntL a + cntL b := by simp [cntL]
theorem cnt_ok {w : WorldD} (hok : worldOk w = true) : Mk.cnt w ≤ 2000 + cntL w.log := by
  obtain ⟨cok, tok, _, _, jl, ja⟩ := worldOk_iff.1 hok
  obtain ⟨tl, ta⟩ := todoOk_iff.1 tok
  have e : Mk.cnt w = cntL w.cells + cntL w.jobs + cntL w.todo + cntL w.log := rfl
  have h1 : cntL w.cells = 71 := by rw [cntL_int, (cellsOk_iff.1 cok).2]
  have h2 : cntL w.jobs ≤ w.jobs.length * 100 := cntL_each fun j hj => by
    have ej : Mk.cnt j = 16 + cntL j.keys + cntL j.raw := rfl
    rw [ej, cntL_int, cntL_int]
    obtain ⟨i, hi, rfl⟩ := List.getElem_of_mem hj
    rcases jobAt_iff.1 (ja i hi) with h | ⟨_, h, _⟩
    · rw [h]; exact (by decide : 16 + 0 + 0 ≤ 100)
    · have := ((jobOk_iff' _).1 h).2.2.2.2.2.2.2; omega
  have h3 : cntL w.todo ≤ w.todo.length * 40 := cntL_each fun q hq => by
    have eq : Mk.cnt q = cntL q.ops := rfl
    obtain ⟨i, hi, rfl⟩ := List.getElem_of_mem hq
    have h := (queueOk_iff.1 (ta i hi)).1
    have h4 : cntL w.todo[i].ops ≤ w.todo[i].ops.length * 4 := cntL_each fun o _ => Nat.le_refl _
    rw [eq]; omega
  omega
theorem cnt_rb {k : Nat} {a b : List EvD} (h : RowB k a b) : cntL b ≤ cntL a + (12 + 10 * k) := by
  rcases h with rfl | ⟨e, rfl, he⟩
  · omega
  · rw [cntL_app]
    have h1 : cntL [e] = 12 + cntL e.rows := by simp [cntL]; rfl
    rw [h1, cntL_row]; omega
theorem stepD_cnt {w : WorldD} {t : Nat} (hok : worldOk w = true) (ht : t < 4) : cntL (stepD w t).log ≤ cntL w.log + 60 := by
  obtain ⟨_, _, _, _, jl, ja⟩ := worldOk_iff.1 hok
  unfold stepD
  split
  · omega
  split
  · rename_i hn hb
    have hj : jobAt t (jobOf w t) = true := by
      unfold jobOf; rw [List.getD_eq_getElem?_getD, List.getElem?_eq_getElem (by omega)]; exact ja t (by omega)
    obtain ⟨_, hj, _⟩ := (jobAt_iff.1 hj).resolve_left (fun e => by rw [e] at hb; cases hb)
    have hk := ((jobOk_iff' _).1 hj).2.2.2.2.2.2.2.1
    have := cnt_rb (moveD_rb { w with now := w.now + 1 } t { jobOf w t with steps := IntKind.i64.wrap ((jobOf w t).steps + 1) })
    have h2 : (jobOf w t).keys.length ≤ 4 := by omega
    show cntL (moveD { w with now := w.now + 1 } t { jobOf w t with steps := IntKind.i64.wrap ((jobOf w t).steps + 1) }).1.log ≤ _
    have h3 : cntL ({ w with now := w.now + 1 } : WorldD).log = cntL w.log := rfl
    have h4 : ({ jobOf w t with steps := IntKind.i64.wrap ((jobOf w t).steps + 1) } : JobD).keys.length = (jobOf w t).keys.length := rfl
    omega
  split
  · omega
  · have := cnt_rb (a := w.log) (b := (startD { w with now := w.now + 1 } t).log) (k := 0) (.inr ⟨_, rfl, Nat.le_refl _⟩)
    omega
theorem sz_log' {w : WorldD} (h : Ob.sz w ≤ 1048576) : cntL w.log ≤ 20971520 := by
  have h1 : Ob.sz w = Ob.sz w.cells + Ob.sz w.jobs + Ob.sz w.todo + Ob.sz w.log := rfl
  have := cntL_le w.log
  omega
theorem cnt_step {w : WorldD} {t : Int} (h : Ob.sz w ≤ 1048576) : Mk.cnt (stepS w t) ≤ 1000000000 := by
  by_cases hok : worldOk w = true
  · have h1 := cnt_ok (stepS_ok (t := t) hok)
    have h2 := sz_log' h
    have h3 : cntL (stepS w t).log ≤ cntL w.log + 60 := by
      unfold stepS; split
      · exact stepD_cnt hok (by omega)
      · omega
    omega
  · have e : stepS w t = w := by unfold stepS; rw [if_neg (fun k => hok k.1)]
    rw [e]; have := cnt_le_V h; omega
end Go.Proofs.YtipfnhfcoolhaaaGreat.Aw
end
