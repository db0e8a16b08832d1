/- Copies of models: both packages. -/
import Derived.Test.YtipfnhfcoolhaaaFl1
namespace Go.Proofs.Ytipfnhfcoolhaaa.Aw
open Go Go.RowKit
set_option linter.unusedVariables false
set_option linter.unusedSimpArgs false
set_option maxRecDepth 100000
set_option maxHeartbeats 2000000
attribute [-go_sem] wr_eq
theorem CloneKRow_ok (W0 : World) (v : AV) (a : List KRowD) (H : AH) (ha : SlR W0 H v a) (hl : a.length ≤ 1000000000) : ACalls Try.prog W0 145 [v] H (fun u H' => NewS H H' u a) := by
  refine acallw Try.func145 rfl (by kernel_rfl) (by kernel_rfl) fun hc hw => ?_
  rcases ha.cases with ⟨b, o, n, rfl⟩ | ⟨n, c, rfl, rfl⟩ | ⟨ad, n, c, rfl⟩
  · repeat' (first | simp -implicitDefEqProofs only [go_sem] | (refine app_new ha (by repeat (first | exact Sub.refl _ | assumption | refine Sub.new (by assumption) ?_ _ _ | refine Sub.kill_new (by assumption) ?_ _ _ | refine Sub.trans ?_ (by assumption))) (by simp only [go_sem]) (Nat.le_refl _) hw ?_; intro H' hs hN))
    exact retK_one hN
  · repeat' (first | simp -implicitDefEqProofs only [go_sem] | (simp -implicitDefEqProofs only [Option.isNone_none, Option.isNone_some, go_sem]))
    exact retK_one ⟨Sub.refl _, [], .inl ⟨rfl, rfl, rfl⟩, Fresh.nil _⟩
  · repeat' (first | simp -implicitDefEqProofs only [go_sem] | (simp -implicitDefEqProofs only [Option.isNone_none, Option.isNone_some, go_sem]) | (refine app_new ha (by repeat (first | exact Sub.refl _ | assumption | refine Sub.new (by assumption) ?_ _ _ | refine Sub.kill_new (by assumption) ?_ _ _ | refine Sub.trans ?_ (by assumption))) (by simp only [go_sem]) (Nat.le_refl _) hw ?_; intro H' hs hN))
    exact retK_one hN
section
variable {P : Program} {W0 : World}
/-- A list copied behind an empty slice that is new; nothing else changes. -/
theorem app_newU {α : Type} [Ob α] [Own α] [Flat α] {K : Kt} {H : AH} {v : AV} {xs : List α} {g : Bool} {s by' : Nat} {z : List Value} {b : Nat} (hv : SlR W0 H v xs) (hB : H.blk b = some ⟨[], s⟩) (hwH : H.wf) (k : ∀ u H', H'.wf → OwnS H' [H.nxt] u xs → Upd [b] H H' [H.nxt] → K.k u H')
    (h3 : xs.length * by' ≤ 140737488355328 := by omega) (hz : s = Ob.n α := by rfl) (g1 : 0 < s := by decide) (g2 : 0 < by' := by decide) (g3 : z.length = s := by rfl) : aapp (K := K) P W0 H (some ⟨g, s, by', z⟩) (.sl b 0 0) v := by
  subst hz
  obtain ⟨h1, h2, cs, hc, hr⟩ := hv
  obtain ⟨rfl, hok⟩ := Reps.flat Flat.rep_enc hr
  have hl := lenA_of (slN_len h1)
  have hel := encL_len hok
  rw [aapp_sl, hl]
  simp only [hB, hc]
  rw [aapp2_some]
  refine ⟨g1, g2, g3, hr.leaf, rfl, by simp, by rw [Nat.zero_add]; exact h3, ?_⟩
  simp only [Nat.zero_add, Nat.zero_mul, List.drop_nil, List.take_nil, List.nil_append]
  refine k _ _ ((hwH.kill b).new _ _) (OwnS.ofFlat (cs := encL xs) (blk_new_self _ _ _) (by rw [List.drop_zero]; exact List.take_of_length_le (by rw [hel]; exact Nat.le_refl _)) (by rw [hel]; omega) h2 hok rfl) ⟨Nat.le_succ _, fun x B hx hB' => ?_, fun x hx => .inr (by simp at hx; omega), by simp⟩
  have := hwH.lt hB'
  rw [blk_new, if_neg (show ¬ x = (H.kill b).nxt from by rw [nxt_kill]; omega), blk_kill, if_neg (by simpa using hx)]
  exact hB'
end
theorem modelCopy_ok (W0 : World) (cs : List AV) (m : ModelD) (H : AH) (hm : Ob.rep W0 H cs m) (h1 : m.keys.length ≤ 1000000000) (h2 : m.rows.length ≤ 1000000000) : ACalls Try.prog W0 82 [.agg cs] H (fun v H' => NewV H H' v m) := by
  refine acallw Try.func82 rfl (by kernel_rfl) (by kernel_rfl) fun hc hw => ?_
  obtain ⟨vk, vr, rfl, f0, f1⟩ := hm
  repeat' (first | simp -implicitDefEqProofs only [go_sem] | ((with_reducible refine adraw_plan [(0, []), (1, []), (3, []), (4, []), (2, [3, 4]), (5, []), (6, []), (7, [])] ?_ ?_ ?_); (· kernel_rfl); (· decide +kernel)))
  refine ACallK.of (CloneKRow_ok _ vk m.keys _ (f0.sub (by repeat (first | exact Sub.refl _ | assumption | refine Sub.new (by assumption) ?_ _ _ | refine Sub.kill_new (by assumption) ?_ _ _ | refine Sub.trans ?_ (by assumption)))) h1).cl ?_
  rintro u1 H1 ⟨⟨s1, S1, w1, F1⟩, c1⟩
  have n1 := s1.1; simp only [go_sem] at n1
  have a1 := s1.2 H.nxt _ (by simp only [go_sem]; rfl)
  have o1 := s1.2 (H.nxt + 1) _ (by simp only [go_sem]; rfl)
  have hw1 := c1.1
  have hs1 : Sub H H1 := ((Sub.new hw (Sub.refl _) _ _).trans ((Sub.refl _).new (hw.new _ _) _ _)).trans s1
  repeat' (first | simp -implicitDefEqProofs only [go_sem] | (simp -implicitDefEqProofs only [a1, o1]))
  refine ACallK.of (CloneRow_ok _ vr m.rows _ (f1.sub hs1) h2).cl ?_
  rintro u2 H2 ⟨⟨s2, S2, w2, F2⟩, c2⟩
  have n2 := s2.1
  have a2 := s2.2 _ _ a1
  have o2 := s2.2 _ _ o1
  have w1' := w1.sub s2
  have hb1 : ∀ b ∈ S1, b < H1.nxt := fun b hb => hw1.lt' (w1.isin b hb)
  repeat' (first | simp -implicitDefEqProofs only [go_sem] | (simp -implicitDefEqProofs only [a2, o2, w1'.one, w1'.leaf, w2.one, w2.leaf, set_set, wr_succ, wr_zero, wr_none, go_sem]))
  refine retK_one ?_
  refine ⟨by repeat (first | exact Sub.refl _ | assumption | refine Sub.new hc.1 ?_ _ _ | refine Sub.set hc.1 ?_ (by omega) _ | refine Sub.trans ?_ (by assumption)), _, _, rfl, ⟨u1, u2, S1, S2, rfl, rfl, w1'.setne (fun b hb => by have := F1.2 b hb; simp only [go_sem] at this; omega), w2.setne (fun b hb => by have := F2.2 b hb; omega)⟩, Fresh.app (F1.le (by simp only [go_sem]; omega)) (F2.le (by omega)) (fun b hb hc => by have := hb1 b hb; have := F2.2 b hc; omega)⟩
theorem l13Copy_ok (W0 : World) (cs : List AV) (m : ModelD) (H : AH) (hm : Ob.rep W0 H cs m) (h1 : m.keys.length ≤ 1000000000) (h2 : m.rows.length ≤ 1000000000) : ACalls Try.prog W0 77 [.agg cs] H (fun v H' => NewV H H' v m) := by
  refine acallw Try.func77 rfl (by kernel_rfl) (by kernel_rfl) fun hc hw => ?_
  obtain ⟨vk, vr, rfl, f0, f1⟩ := hm
  repeat' (first | simp -implicitDefEqProofs only [go_sem] | ((with_reducible refine adraw_tree (.node [1, 2, 5, 6] [(0, [1, 2, 5, 6], (.node [] [(3, [5, 6], (.node [] [(4, [1, 2, 5, 6], (.node [] [(7, [], (.node [8] [(9, [], (.node [] []))]))]))])), (4, [1, 2, 5, 6], (.node [] [(3, [5, 6], (.node [] [(7, [], (.node [8] [(9, [], (.node [] []))]))]))]))])), (4, [1, 2, 5, 6], (.node [] [(0, [1, 2, 5, 6], (.node [] [(3, [5, 6], (.node [] [(7, [], (.node [8] [(9, [], (.node [] []))]))]))]))]))]) ?_ ?_ ?_); (· kernel_rfl); (· decide +kernel)) | (with_reducible refine And.intro ?_ ?_))
  all_goals (refine app_newU (f0.sub (by repeat (first | exact Sub.refl _ | assumption | refine Sub.new (by assumption) ?_ _ _ | refine Sub.kill_new (by assumption) ?_ _ _ | refine Sub.trans ?_ (by assumption)))) (by simp only [go_sem]) (by repeat (first | exact hw | refine AH.wf.new ?_ _ _)) ?_; intro u1 G1 x1 o1 g1; have z1 : Sub H G1 := (g1.sub hw (by repeat (first | exact Sub.refl _ | assumption | refine Sub.new (by assumption) ?_ _ _ | refine Sub.kill_new (by assumption) ?_ _ _ | refine Sub.trans ?_ (by assumption))) (by intro b hb; simp at hb; omega)).1; have a1 := g1.2.1 H.nxt _ (by simp) (by simp only [go_sem]; rfl); have b1 := g1.2.1 (H.nxt + 1) _ (by simp) (by simp only [go_sem]; rfl))
  all_goals (have e0 := x1.lt' (o1.isin _ (List.mem_singleton.2 rfl)); simp only [go_sem] at e0; have e1 : ¬ H.nxt = G1.nxt := (by omega); have e2 : ¬ H.nxt + 1 = G1.nxt := (by omega); simp only [go_sem] at o1 g1)
  · repeat' (first | simp -implicitDefEqProofs only [go_sem] | (simp -implicitDefEqProofs only [a1, b1, if_neg e1, if_neg e2]))
    refine app_newU (f1.sub (z1.trans ((Sub.refl _).new x1 _ _))) (by simp only [go_sem]) (x1.new _ _) ?_
    intro u2 G2 x2 o2 g2
    have z2 : Sub H G2 := (g2.sub hw (z1.trans ((Sub.refl _).new x1 _ _)) (by intro b hb; simp at hb; omega)).1
    have a2 := g2.2.1 H.nxt _ (by simp <;> omega) (by simp only [go_sem, if_neg e1]; exact a1)
    have b2 := g2.2.1 (H.nxt + 1) _ (by simp <;> omega) (by simp only [go_sem, if_neg e2]; exact b1)
    have o1' := g2.own (o1.sub ((Sub.refl _).new x1 _ _)) (by intro b hb hm; simp at hb hm; omega)
    repeat' (first | simp -implicitDefEqProofs only [go_sem] | (simp -implicitDefEqProofs only [a2, b2, o1'.one, o1'.leaf, o2.one, o2.leaf, set_set, wr_succ, wr_zero, wr_none, go_sem]))
    exact retK_one ⟨z2.set hw (Nat.le_succ _) _, _, _, rfl, ⟨u1, u2, _, _, rfl, rfl, o1'.setne (fun b hb => by simp only [List.mem_singleton] at hb; rw [hb]; first | omega | (simp only [go_sem]; omega)), o2.setne (fun b hb => by simp only [List.mem_singleton] at hb; rw [hb]; first | omega | (simp only [go_sem]; omega))⟩, by simp only [Fresh, List.nodup_cons, List.cons_append, List.nil_append, List.mem_cons, List.not_mem_nil, or_false]; simp only [go_sem]; refine ⟨⟨by omega, by simp⟩, by intro b hb; omega⟩⟩
  · have r1 := g1.2.1 (H.nxt + 3) _ (by simp) (by simp only [go_sem]; rfl)
    repeat' (first | simp -implicitDefEqProofs only [go_sem] | (simp -implicitDefEqProofs only [a1, b1]))
    refine app_newU (f1.sub (z1)) (r1) (x1) ?_
    intro u2 G2 x2 o2 g2
    have z2 : Sub H G2 := (g2.sub hw (z1) (by intro b hb; simp at hb; omega)).1
    have a2 := g2.2.1 H.nxt _ (by simp <;> omega) a1
    have b2 := g2.2.1 (H.nxt + 1) _ (by simp <;> omega) b1
    have o1' := g2.own o1 (by intro b hb hm; simp at hb hm; omega)
    repeat' (first | simp -implicitDefEqProofs only [go_sem] | (simp -implicitDefEqProofs only [a2, b2, o1'.one, o1'.leaf, o2.one, o2.leaf, set_set, wr_succ, wr_zero, wr_none, go_sem]))
    exact retK_one ⟨z2.set hw (Nat.le_succ _) _, _, _, rfl, ⟨u1, u2, _, _, rfl, rfl, o1'.setne (fun b hb => by simp only [List.mem_singleton] at hb; rw [hb]; first | omega | (simp only [go_sem]; omega)), o2.setne (fun b hb => by simp only [List.mem_singleton] at hb; rw [hb]; first | omega | (simp only [go_sem]; omega))⟩, by simp only [Fresh, List.nodup_cons, List.cons_append, List.nil_append, List.mem_cons, List.not_mem_nil, or_false]; simp only [go_sem]; refine ⟨⟨by omega, by simp⟩, by intro b hb; omega⟩⟩
  · have r1 := g1.2.1 (H.nxt + 2) _ (by simp) (by simp only [go_sem]; rfl)
    repeat' (first | simp -implicitDefEqProofs only [go_sem] | (simp -implicitDefEqProofs only [a1, b1]))
    refine app_newU (f1.sub (z1)) (r1) (x1) ?_
    intro u2 G2 x2 o2 g2
    have z2 : Sub H G2 := (g2.sub hw (z1) (by intro b hb; simp at hb; omega)).1
    have a2 := g2.2.1 H.nxt _ (by simp <;> omega) a1
    have b2 := g2.2.1 (H.nxt + 1) _ (by simp <;> omega) b1
    have o1' := g2.own o1 (by intro b hb hm; simp at hb hm; omega)
    repeat' (first | simp -implicitDefEqProofs only [go_sem] | (simp -implicitDefEqProofs only [a2, b2, o1'.one, o1'.leaf, o2.one, o2.leaf, set_set, wr_succ, wr_zero, wr_none, go_sem]))
    exact retK_one ⟨z2.set hw (Nat.le_succ _) _, _, _, rfl, ⟨u1, u2, _, _, rfl, rfl, o1'.setne (fun b hb => by simp only [List.mem_singleton] at hb; rw [hb]; first | omega | (simp only [go_sem]; omega)), o2.setne (fun b hb => by simp only [List.mem_singleton] at hb; rw [hb]; first | omega | (simp only [go_sem]; omega))⟩, by simp only [Fresh, List.nodup_cons, List.cons_append, List.nil_append, List.mem_cons, List.not_mem_nil, or_false]; simp only [go_sem]; refine ⟨⟨by omega, by simp⟩, by intro b hb; omega⟩⟩
end Go.Proofs.Ytipfnhfcoolhaaa.Aw
