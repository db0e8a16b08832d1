/- Parts of a proof: Gp Fwj. -/
import Derived.Test.YtipfnhfcoolhaaaGreatK13
import Derived.Test.YtipfnhfcoolhaaaGreatK24
import Derived.Test.YtipfnhfcoolhaaaGreatK12
import Derived.Test.YtipfnhfcoolhaaaGreatK18
set_option linter.unusedVariables false
set_option linter.unusedSimpArgs false
section
namespace Go.Proofs.YtipfnhfcoolhaaaGreat.Aw
open Go Go.RowKit
set_option maxRecDepth 100000
set_option maxHeartbeats 4000000
attribute [-go_sem] wr_eq
theorem Rounds_impl (W0 : World) (cs : List AV) (w : WorldD) (n : Int) (H : AH) (hx : Ob.rep W0 H cs w) (hb : WB w) (hl : LB 9000000 w) : ACalls Tryz.prog W0 31 [.agg cs, .v (.int .i64 n)] H (fun u H' => NewV H H' u (roundsD w n)) := by
  refine acallw Tryz.func31 rfl (by kernel_rfl) (by kernel_rfl) fun hc hw => ?_
  have hx0 := hx
  obtain ⟨xc, xj, xt, xl, rfl, f1, f2, f3, f4, is, inw⟩ := hx0
  have c1 := f1.one; have c2 := f2.one; have c3 := f3.one; have c4 := f4.one
  have p1 := f1.leaf; have p2 := f2.leaf; have p3 := f3.leaf; have p4 := f4.leaf
  repeat' (first | simp -implicitDefEqProofs only [go_sem])
  refine ACallK.of (worldCopy_ok _ _ w _ (Ob.sub (by repeat (first | exact Sub.refl _ | assumption | refine Sub.new (by assumption) ?_ _ _ | refine Sub.kill_new (by assumption) ?_ _ _ | refine Sub.trans ?_ (by assumption))) hx) hb).cl ?_
  rintro _ H1 ⟨⟨s1, S1, d1, rfl, o1, F1⟩, k1⟩
  have z1 : Sub H H1 := Sub.trans (by repeat (first | exact Sub.refl _ | assumption | refine Sub.new (by assumption) ?_ _ _ | refine Sub.kill_new (by assumption) ?_ _ _ | refine Sub.trans ?_ (by assumption))) s1
  have n1 := s1.1; simp only [go_sem] at n1
  have hF1 := F1.2; simp only [go_sem] at hF1
  have q1 : d1.length = 6 := Ob.len (Own.rep (W0 := W0) o1)
  have l1 : d1.all leafA = true := Ob.leaf (Own.rep (W0 := W0) o1)
  have t1 : d1.take 6 = d1 := List.take_of_length_le (by omega)
  have bm := s1.2 H.nxt _ (by simp only [go_sem]; rfl)
  have br := s1.2 (H.nxt + 1) _ (by simp only [go_sem]; rfl)
  have e0 : ¬ H.nxt = H1.nxt := by omega
  have e1 : ¬ H.nxt + 1 = H1.nxt := by omega
  by_cases hv : worldOk w = true
  · repeat' (first | simp -implicitDefEqProofs only [go_sem] | (simp -implicitDefEqProofs only [bm, br, e0, e1, q1, t1, if_false, List.drop_zero, Nat.le_refl]) | (with_reducible refine And.intro l1 ?_) | (rw [wr_all _ _ (by rw [q1]; rfl)]) | (refine ACallK.eq (WorldOk_impl _ _ w _ (Ob.sub (z1.trans ((Sub.refl _).new k1.1 _ _)) hx)) ?_; rw [hv]))
    have bm0 : (H1.new d1 6).blk H.nxt = some ⟨_, 6⟩ := (by simp only [go_sem, e0, if_false]; exact bm)
    have br0 : (H1.new d1 6).blk (H.nxt + 1) = some ⟨_, 6⟩ := (by simp only [go_sem, e1, if_false]; exact br)
    obtain ⟨G, hG⟩ : ∃ X, X = H1.new d1 6 := ⟨_, rfl⟩
    rw [← hG] at bm0 br0 ⊢
    have wG : G.wf := by rw [hG]; exact k1.1.new _ _
    have zG : Sub H G := by rw [hG]; exact z1.trans ((Sub.refl _).new k1.1 _ _)
    have bG : G.blk H1.nxt = some ⟨d1, 6⟩ := by rw [hG]; exact blk_new_self _ _ _
    have oG : Own.own G S1 d1 w := by rw [hG]; exact Own.sub o1 ((Sub.refl _).new k1.1 _ _)
    have nG : G.nxt = H1.nxt + 1 := by rw [hG]; rfl
    have hS1 : ∀ x ∈ S1, H.nxt + 2 ≤ x ∧ x ≠ H1.nxt := fun x hx => ⟨hF1 x hx, by have := k1.1.lt' (Own.isin o1 x hx); omega⟩
    clear hG
    refine acode_while (fun i : Nat => [(1, .v (.int .i64 n)), (2, .ptr H.nxt 0), (4, .ptr (H.nxt + 1) 0), (5, .ptr H1.nxt 0), (6, .v (.int .i64 i))]) (fun i H' => i ≤ min n.toNat 4000 ∧ H'.wf ∧ G.nxt ≤ H'.nxt ∧ (∀ x B, x < H.nxt + 2 → G.blk x = some B → H'.blk x = some B) ∧ Kept w (roundsTo w i) i ∧ ∃ ds S, H'.blk H1.nxt = some ⟨ds, 6⟩ ∧ Own.own H' S ds (roundsTo w i) ∧ S.Nodup ∧ ∀ x ∈ S, H.nxt + 2 ≤ x ∧ x ≠ H1.nxt) (fun i => min n.toNat 4000 - i) 0 ⟨Nat.zero_le _, wG, Nat.le_refl _, fun _ _ _ h => h, Kept.start hv hl, d1, S1, bG, oG, F1.1, hS1⟩ ?_
    rintro i H' ⟨hi, hw', hn', hk', hkp, ds, S, hB, ho, hn, hS⟩
    have bm2 := hk' _ _ (by omega) bm0
    have br2 := hk' _ _ (by omega) br0
    have hs : Sub H H' := ⟨by have := zG.1; omega, fun x B hX => hk' x B (by have := hw.lt hX; omega) (zG.2 _ _ hX)⟩
    have q2 : ds.length = 6 := Ob.len (Own.rep (W0 := W0) ho)
    have l2 : ds.all leafA = true := Ob.leaf (Own.rep (W0 := W0) ho)
    have t2 : ds.take 6 = ds := List.take_of_length_le (by omega)
    have hlB := hw'.lt hB
    have ei : (i : Int).tmod 4 = ((i % 4 : Nat) : Int) := by rw [Int.tmod_eq_emod_of_nonneg (by omega)]; omega
    have hmod : i % 4 < 4 := Nat.mod_lt _ (by omega)
    rcases Nat.lt_or_ge i (min n.toNat 4000) with hlt | hge
    · have dk1 : decide ((i : Int) < n) = true := decide_eq_true (by omega)
      have dk2 : decide ((i : Int) < 4000) = true := decide_eq_true (by omega)
      have dk3 : decide ((i : Int) < (if (4000 : Int) < n then 4000 else n)) = true := decide_eq_true (by split <;> omega)
      repeat' (first | simp -implicitDefEqProofs only [go_sem] | (simp -implicitDefEqProofs only [hB, bm2, br2, q2, t2, if_false, List.drop_zero, Nat.le_refl, dk1, dk2, dk3, ei]))
      have hst : stepS (roundsTo w i) ((i % 4 : Nat) : Int) = stepD (roundsTo w i) (i % 4) := by unfold stepS; rw [if_pos ⟨hkp.ok, by omega, by omega⟩]; rfl
      refine ACallK.of (Step_impl0 _ ds (roundsTo w i) ((i % 4 : Nat) : Int) _ (Own.rep ho) (hkp.wb (by omega))).cl ?_
      rintro _ H2 ⟨⟨s2, S2, d2, rfl, o2, F2⟩, k2⟩
      have bx2 := s2.2 _ _ hB
      have q3 : d2.length = 6 := Ob.len (Own.rep (W0 := W0) o2)
      have l3 : d2.all leafA = true := Ob.leaf (Own.rep (W0 := W0) o2)
      have hwr2 : wr ds 0 d2 = d2 := wr_all _ _ (by rw [q2, q3])
      repeat' (first | simp -implicitDefEqProofs only [go_sem] | (simp -implicitDefEqProofs only [bx2, hwr2, if_false, List.drop_zero, Nat.le_refl]) | (with_reducible refine And.intro q3 ?_) | (with_reducible refine And.intro l3 ?_) | simp -implicitDefEqProofs (disch := omega) only [wrap_in, u8_small, Int.tmod_eq_emod_of_nonneg, Int.tdiv_eq_ediv_of_nonneg] | (with_reducible refine And.intro (by omega) ?_) | fail)
      have hS2 : ∀ x ∈ S2, H.nxt + 2 ≤ x ∧ x ≠ H1.nxt := fun x hx => by have := F2.2 x hx; omega
      have hk2 : ∀ x B, x < H.nxt + 2 → G.blk x = some B → (H2.set H1.nxt ⟨d2, 6⟩).blk x = some B := fun x B h1 h2 => by
        rw [blk_set_ne _ (by omega)]; exact s2.2 x B (hk' x B h1 h2)
      have g2 := s2
      rw [hst] at o2
      exact back (i + 1) ⟨by omega, k2.1.set (k2.1.lt bx2) _, by have := g2.1; first | omega | (simp only [nxt_set]; omega), by first | exact hk2 | (intro x B h1 h2; have h3 := hk2 x B h1 h2; simpa only [go_sem] using h3), hkp.step hmod, d2, S2, (by first | exact blk_set_self _ _ _ | rfl | simp only [if_true]), Own.eq o2 (fun x hx => blk_set_ne _ (hS2 x hx).2 _), F2.1, hS2⟩ (by first | omega | (simp only; omega))
    · obtain rfl : i = min n.toNat 4000 := by omega
      have dk : (decide (((min n.toNat 4000 : Nat) : Int) < n) && decide (((min n.toNat 4000 : Nat) : Int) < 4000)) = false := by rw [Bool.and_eq_false_iff]; by_cases h : n.toNat ≤ 4000; exact .inl (decide_eq_false (by omega)); exact .inr (decide_eq_false (by omega))
      have dk3 : decide (((min n.toNat 4000 : Nat) : Int) < (if (4000 : Int) < n then 4000 else n)) = false ∨ n < 0 := by by_cases h : n < 0; exact .inr h; exact .inl (decide_eq_false (by split <;> omega))
      have hval : roundsD w n = roundsTo w (min n.toNat 4000) := by unfold roundsD; rw [if_pos hv]
      repeat' (first | simp -implicitDefEqProofs only [go_sem] | (simp -implicitDefEqProofs only [hB, bm2, br2, q2, t2, if_false, List.drop_zero, Nat.le_refl]) | (with_reducible refine And.intro l2 ?_) | (rw [wr_all _ _ (by rw [q2]; rfl)]) | refine acond_decF (by omega) ?_ | fail)
      all_goals first | (exfalso; first | omega | (split at * <;> omega)) | skip
      all_goals (
        rw [hval]
        exact retK_one ⟨hs.set hw (Nat.le_succ _) _, S, _, rfl, Own.eq ho (fun b hb => blk_set_ne _ (by have := (hS b hb).1; omega) _), hn, fun x hx => by have := (hS x hx).1; omega⟩)
  · have hst : roundsD w n = w := by unfold roundsD; rw [if_neg hv]
    repeat' (first | simp -implicitDefEqProofs only [go_sem] | (simp -implicitDefEqProofs only [bm, br, e0, e1, q1, t1, blk_set_self, if_false, List.drop_zero, Nat.le_refl]) | (with_reducible refine And.intro l1 ?_) | (rw [wr_all _ _ (by rw [q1]; rfl)]) | (refine ACallK.eq (WorldOk_impl _ _ w _ (Ob.sub (z1.trans ((Sub.refl _).new k1.1 _ _)) hx)) ?_) | refine acond_split (fun _ => ?_) (fun _ => ?_))
    all_goals first
      | (exfalso; simp_all; done)
      | (rw [hst]
         exact retK_one ⟨(z1.trans ((Sub.refl _).new k1.1 _ _)).set hw (Nat.le_succ _) _, S1, _, rfl, Own.eq (Own.sub o1 ((Sub.refl _).new k1.1 d1 6)) (fun b hb => blk_set_ne _ (by have := hF1 b hb; omega) _), F1.le (by simp only [go_sem]; omega)⟩)
      | trace_state
theorem Finish_impl (W0 : World) (cs : List AV) (w : WorldD) (H : AH) (hx : Ob.rep W0 H cs w) (hb : WB w) (hl : LB 9000000 w) : ACalls Tryz.prog W0 33 [.agg cs] H (fun u H' => NewV H H' u (finishD w)) := by
  refine acallw Tryz.func33 rfl (by kernel_rfl) (by kernel_rfl) fun hc hw => ?_
  have hx0 := hx
  obtain ⟨xc, xj, xt, xl, rfl, f1, f2, f3, f4, is, inw⟩ := hx0
  have c1 := f1.one; have c2 := f2.one; have c3 := f3.one; have c4 := f4.one
  have p1 := f1.leaf; have p2 := f2.leaf; have p3 := f3.leaf; have p4 := f4.leaf
  repeat' (first | simp -implicitDefEqProofs only [go_sem])
  refine ACallK.of (worldCopy_ok _ _ w _ (Ob.sub (by repeat (first | exact Sub.refl _ | assumption | refine Sub.new (by assumption) ?_ _ _ | refine Sub.kill_new (by assumption) ?_ _ _ | refine Sub.trans ?_ (by assumption))) hx) hb).cl ?_
  rintro _ H1 ⟨⟨s1, S1, d1, rfl, o1, F1⟩, k1⟩
  have z1 : Sub H H1 := Sub.trans (by repeat (first | exact Sub.refl _ | assumption | refine Sub.new (by assumption) ?_ _ _ | refine Sub.kill_new (by assumption) ?_ _ _ | refine Sub.trans ?_ (by assumption))) s1
  have n1 := s1.1; simp only [go_sem] at n1
  have hF1 := F1.2; simp only [go_sem] at hF1
  have q1 : d1.length = 6 := Ob.len (Own.rep (W0 := W0) o1)
  have l1 : d1.all leafA = true := Ob.leaf (Own.rep (W0 := W0) o1)
  have t1 : d1.take 6 = d1 := List.take_of_length_le (by omega)
  have bm := s1.2 H.nxt _ (by simp only [go_sem]; rfl)
  have br := s1.2 (H.nxt + 1) _ (by simp only [go_sem]; rfl)
  have e0 : ¬ H.nxt = H1.nxt := by omega
  have e1 : ¬ H.nxt + 1 = H1.nxt := by omega
  by_cases hv : worldOk w = true
  · repeat' (first | simp -implicitDefEqProofs only [go_sem] | (simp -implicitDefEqProofs only [bm, br, e0, e1, q1, t1, if_false, List.drop_zero, Nat.le_refl]) | (with_reducible refine And.intro l1 ?_) | (rw [wr_all _ _ (by rw [q1]; rfl)]) | (refine ACallK.eq (WorldOk_impl _ _ w _ (Ob.sub (z1.trans ((Sub.refl _).new k1.1 _ _)) hx)) ?_; rw [hv]))
    have bm0 : (H1.new d1 6).blk H.nxt = some ⟨_, 6⟩ := (by simp only [go_sem, e0, if_false]; exact bm)
    have br0 : (H1.new d1 6).blk (H.nxt + 1) = some ⟨_, 6⟩ := (by simp only [go_sem, e1, if_false]; exact br)
    obtain ⟨G, hG⟩ : ∃ X, X = H1.new d1 6 := ⟨_, rfl⟩
    rw [← hG] at bm0 br0 ⊢
    have wG : G.wf := by rw [hG]; exact k1.1.new _ _
    have zG : Sub H G := by rw [hG]; exact z1.trans ((Sub.refl _).new k1.1 _ _)
    have bG : G.blk H1.nxt = some ⟨d1, 6⟩ := by rw [hG]; exact blk_new_self _ _ _
    have oG : Own.own G S1 d1 w := by rw [hG]; exact Own.sub o1 ((Sub.refl _).new k1.1 _ _)
    have nG : G.nxt = H1.nxt + 1 := by rw [hG]; rfl
    have hS1 : ∀ x ∈ S1, H.nxt + 2 ≤ x ∧ x ≠ H1.nxt := fun x hx => ⟨hF1 x hx, by have := k1.1.lt' (Own.isin o1 x hx); omega⟩
    clear hG
    refine acode_while (fun (p : Nat × WorldD) => [(1, .ptr H.nxt 0), (2, .ptr (H.nxt + 1) 0), (3, .ptr H1.nxt 0), (4, .v (.int .i64 p.1))]) (fun p H' => (p.1 ≤ 4000 ∧ finishTo w 0 4000 = finishTo p.2 p.1 (4000 - p.1)) ∧ H'.wf ∧ G.nxt ≤ H'.nxt ∧ (∀ x B, x < H.nxt + 2 → G.blk x = some B → H'.blk x = some B) ∧ Kept w p.2 p.1 ∧ ∃ ds S, H'.blk H1.nxt = some ⟨ds, 6⟩ ∧ Own.own H' S ds p.2 ∧ S.Nodup ∧ ∀ x ∈ S, H.nxt + 2 ≤ x ∧ x ≠ H1.nxt) (fun p => 4000 - p.1) (0, w) ⟨⟨Nat.zero_le _, rfl⟩, wG, Nat.le_refl _, fun _ _ _ h => h, Kept.start hv hl, d1, S1, bG, oG, F1.1, hS1⟩ ?_
    rintro ⟨i, c⟩ H' ⟨⟨hi, hfin⟩, hw', hn', hk', hkp, ds, S, hB, ho, hn, hS⟩
    simp only at hi hfin hkp ho ⊢
    have bm2 := hk' _ _ (by omega) bm0
    have br2 := hk' _ _ (by omega) br0
    have hs : Sub H H' := ⟨by have := zG.1; omega, fun x B hX => hk' x B (by have := hw.lt hX; omega) (zG.2 _ _ hX)⟩
    have q2 : ds.length = 6 := Ob.len (Own.rep (W0 := W0) ho)
    have l2 : ds.all leafA = true := Ob.leaf (Own.rep (W0 := W0) ho)
    have t2 : ds.take 6 = ds := List.take_of_length_le (by omega)
    have hlB := hw'.lt hB
    have ei : (i : Int).tmod 4 = ((i % 4 : Nat) : Int) := by rw [Int.tmod_eq_emod_of_nonneg (by omega)]; omega
    have hmod : i % 4 < 4 := Nat.mod_lt _ (by omega)
    by_cases hgo : i < 4000 ∧ ¬ idle c = true
    · have dk2 : decide ((i : Int) < 4000) = true := decide_eq_true (by omega)
      have hid : idle c = false := by simpa using hgo.2
      repeat' (first | simp -implicitDefEqProofs only [go_sem] | (simp -implicitDefEqProofs only [hB, bm2, br2, q2, t2, if_false, List.drop_zero, Nat.le_refl, dk2, ei]) | (refine ACallK.eq (Idle_impl _ _ c _ (Own.rep ho)) ?_; rw [hid]))
      have hst : stepS c ((i % 4 : Nat) : Int) = stepD c (i % 4) := by unfold stepS; rw [if_pos ⟨hkp.ok, by omega, by omega⟩]; rfl
      refine ACallK.of (Step_impl0 _ ds c ((i % 4 : Nat) : Int) _ (Own.rep ho) (hkp.wb (by omega))).cl ?_
      rintro _ H2 ⟨⟨s2, S2, d2, rfl, o2, F2⟩, k2⟩
      have bx2 := s2.2 _ _ hB
      have q3 : d2.length = 6 := Ob.len (Own.rep (W0 := W0) o2)
      have l3 : d2.all leafA = true := Ob.leaf (Own.rep (W0 := W0) o2)
      have hwr2 : wr ds 0 d2 = d2 := wr_all _ _ (by rw [q2, q3])
      repeat' (first | simp -implicitDefEqProofs only [go_sem] | (simp -implicitDefEqProofs only [bx2, hwr2, if_false, List.drop_zero, Nat.le_refl]) | (with_reducible refine And.intro q3 ?_) | (with_reducible refine And.intro l3 ?_) | simp -implicitDefEqProofs (disch := omega) only [wrap_in, u8_small, Int.tmod_eq_emod_of_nonneg, Int.tdiv_eq_ediv_of_nonneg] | (with_reducible refine And.intro (by omega) ?_) | fail)
      have hS2 : ∀ x ∈ S2, H.nxt + 2 ≤ x ∧ x ≠ H1.nxt := fun x hx => by have := F2.2 x hx; omega
      have hk2 : ∀ x B, x < H.nxt + 2 → G.blk x = some B → (H2.set H1.nxt ⟨d2, 6⟩).blk x = some B := fun x B h1 h2 => by
        rw [blk_set_ne _ (by omega)]; exact s2.2 x B (hk' x B h1 h2)
      have g2 := s2
      rw [hst] at o2
      exact back (i + 1, stepD c (i % 4)) ⟨⟨by simp only; omega, by simp only; rw [hfin, finishTo_go hgo.2 hgo.1]⟩, k2.1.set (k2.1.lt bx2) _, by have := g2.1; first | omega | (simp only [nxt_set]; omega), by first | exact hk2 | (intro x B h1 h2; have h3 := hk2 x B h1 h2; simpa only [go_sem] using h3), hkp.step hmod, d2, S2, (by first | exact blk_set_self _ _ _ | rfl | simp only [if_true]), Own.eq o2 (fun x hx => blk_set_ne _ (hS2 x hx).2 _), F2.1, hS2⟩ (by first | omega | (simp only; omega))
    · have hval : finishD w = c := by
        unfold finishD; rw [if_pos hv, hfin]
        by_cases h : idle c = true
        · exact finishTo_idle h _ _
        · rw [show i = 4000 by have := Nat.lt_or_ge i 4000; rcases this with h2 | h2; exact absurd ⟨h2, h⟩ hgo; omega]; rfl
      by_cases hid : idle c = true
      · skip
        repeat' (first | simp -implicitDefEqProofs only [go_sem] | (simp -implicitDefEqProofs only [hB, bm2, br2, q2, t2, if_false, List.drop_zero, Nat.le_refl]) | (with_reducible refine And.intro l2 ?_) | (rw [wr_all _ _ (by rw [q2]; rfl)]) | (refine ACallK.eq (Idle_impl _ _ c _ (Own.rep ho)) ?_; rw [hid]) | refine agrd_dec (fun _ => ?_) (fun _ => ?_))
        all_goals (
          rw [hval]
          exact retK_one ⟨hs.set hw (Nat.le_succ _) _, S, _, rfl, Own.eq ho (fun b hb => blk_set_ne _ (by have := (hS b hb).1; omega) _), hn, fun x hx => by have := (hS x hx).1; omega⟩)
      · have hid : idle c = false := by simpa using hid
        have dk2 : decide ((i : Int) < 4000) = false := decide_eq_false (by intro h; exact hgo ⟨by omega, by rw [hid]; decide⟩)
        repeat' (first | simp -implicitDefEqProofs only [go_sem] | (simp -implicitDefEqProofs only [hB, bm2, br2, q2, t2, if_false, List.drop_zero, Nat.le_refl, dk2]) | (with_reducible refine And.intro l2 ?_) | (rw [wr_all _ _ (by rw [q2]; rfl)]) | fail)
        all_goals (
          rw [hval]
          exact retK_one ⟨hs.set hw (Nat.le_succ _) _, S, _, rfl, Own.eq ho (fun b hb => blk_set_ne _ (by have := (hS b hb).1; omega) _), hn, fun x hx => by have := (hS x hx).1; omega⟩)
  · have hst : finishD w = w := by unfold finishD; rw [if_neg hv]
    repeat' (first | simp -implicitDefEqProofs only [go_sem] | (simp -implicitDefEqProofs only [bm, br, e0, e1, q1, t1, blk_set_self, if_false, List.drop_zero, Nat.le_refl]) | (with_reducible refine And.intro l1 ?_) | (rw [wr_all _ _ (by rw [q1]; rfl)]) | (refine ACallK.eq (WorldOk_impl _ _ w _ (Ob.sub (z1.trans ((Sub.refl _).new k1.1 _ _)) hx)) ?_) | refine acond_split (fun _ => ?_) (fun _ => ?_))
    all_goals first
      | (exfalso; simp_all; done)
      | (rw [hst]
         exact retK_one ⟨(z1.trans ((Sub.refl _).new k1.1 _ _)).set hw (Nat.le_succ _) _, S1, _, rfl, Own.eq (Own.sub o1 ((Sub.refl _).new k1.1 d1 6)) (fun b hb => blk_set_ne _ (by have := hF1 b hb; omega) _), F1.le (by simp only [go_sem]; omega)⟩)
      | trace_state
end Go.Proofs.YtipfnhfcoolhaaaGreat.Aw
end
section
namespace Go.Proofs.YtipfnhfcoolhaaaGreat.Aw
open Go Go.RowKit
set_option maxRecDepth 100000
set_option maxHeartbeats 4000000
attribute [-go_sem] wr_eq
theorem Rounds_spec (W0 : World) (cs : List AV) (w : WorldD) (n : Int) (H : AH) (hx : Ob.rep W0 H cs w) (hb : WB w) (hl : LB 9000000 w) : ACalls Tryz.prog W0 30 [.agg cs, .v (.int .i64 n)] H (fun u H' => NewV H H' u (roundsD w n)) := by
  refine acallw Tryz.func30 rfl (by kernel_rfl) (by kernel_rfl) fun hc hw => ?_
  have hx0 := hx
  obtain ⟨xc, xj, xt, xl, rfl, f1, f2, f3, f4, is, inw⟩ := hx0
  have c1 := f1.one; have c2 := f2.one; have c3 := f3.one; have c4 := f4.one
  have p1 := f1.leaf; have p2 := f2.leaf; have p3 := f3.leaf; have p4 := f4.leaf
  repeat' (first | simp -implicitDefEqProofs only [go_sem])
  refine ACallK.of (l10Copy_ok _ _ w _ (Ob.sub (by repeat (first | exact Sub.refl _ | assumption | refine Sub.new (by assumption) ?_ _ _ | refine Sub.kill_new (by assumption) ?_ _ _ | refine Sub.trans ?_ (by assumption))) hx) hb).cl ?_
  rintro _ H1 ⟨⟨s1, S1, d1, rfl, o1, F1⟩, k1⟩
  have z1 : Sub H H1 := Sub.trans (by repeat (first | exact Sub.refl _ | assumption | refine Sub.new (by assumption) ?_ _ _ | refine Sub.kill_new (by assumption) ?_ _ _ | refine Sub.trans ?_ (by assumption))) s1
  have n1 := s1.1; simp only [go_sem] at n1
  have hF1 := F1.2; simp only [go_sem] at hF1
  have q1 : d1.length = 6 := Ob.len (Own.rep (W0 := W0) o1)
  have l1 : d1.all leafA = true := Ob.leaf (Own.rep (W0 := W0) o1)
  have t1 : d1.take 6 = d1 := List.take_of_length_le (by omega)
  have bm := s1.2 H.nxt _ (by simp only [go_sem]; rfl)
  have br := s1.2 (H.nxt + 1) _ (by simp only [go_sem]; rfl)
  have e0 : ¬ H.nxt = H1.nxt := by omega
  have e1 : ¬ H.nxt + 1 = H1.nxt := by omega
  by_cases hv : worldOk w = true
  · repeat' (first | simp -implicitDefEqProofs only [go_sem] | (simp -implicitDefEqProofs only [bm, br, e0, e1, q1, t1, if_false, List.drop_zero, Nat.le_refl]) | (with_reducible refine And.intro l1 ?_) | (rw [wr_all _ _ (by rw [q1]; rfl)]) | (refine ACallK.eq (WorldOk_spec _ _ w _ (Ob.sub (z1.trans ((Sub.refl _).new k1.1 _ _)) hx)) ?_; rw [hv]))
    have bm0 : (H1.new d1 6).blk H.nxt = some ⟨_, 6⟩ := (by simp only [go_sem, e0, if_false]; exact bm)
    have br0 : (H1.new d1 6).blk (H.nxt + 1) = some ⟨_, 6⟩ := (by simp only [go_sem, e1, if_false]; exact br)
    obtain ⟨G, hG⟩ : ∃ X, X = H1.new d1 6 := ⟨_, rfl⟩
    rw [← hG] at bm0 br0 ⊢
    have wG : G.wf := by rw [hG]; exact k1.1.new _ _
    have zG : Sub H G := by rw [hG]; exact z1.trans ((Sub.refl _).new k1.1 _ _)
    have bG : G.blk H1.nxt = some ⟨d1, 6⟩ := by rw [hG]; exact blk_new_self _ _ _
    have oG : Own.own G S1 d1 w := by rw [hG]; exact Own.sub o1 ((Sub.refl _).new k1.1 _ _)
    have nG : G.nxt = H1.nxt + 1 := by rw [hG]; rfl
    have hS1 : ∀ x ∈ S1, H.nxt + 2 ≤ x ∧ x ≠ H1.nxt := fun x hx => ⟨hF1 x hx, by have := k1.1.lt' (Own.isin o1 x hx); omega⟩
    clear hG
    refine acode_while (fun i : Nat => [(1, .v (.int .i64 n)), (2, .ptr H.nxt 0), (4, .ptr (H.nxt + 1) 0), (5, .ptr H1.nxt 0), (6, .v (.int .i64 i))]) (fun i H' => i ≤ min n.toNat 4000 ∧ H'.wf ∧ G.nxt ≤ H'.nxt ∧ (∀ x B, x < H.nxt + 2 → G.blk x = some B → H'.blk x = some B) ∧ Kept w (roundsTo w i) i ∧ ∃ ds S, H'.blk H1.nxt = some ⟨ds, 6⟩ ∧ Own.own H' S ds (roundsTo w i) ∧ S.Nodup ∧ ∀ x ∈ S, H.nxt + 2 ≤ x ∧ x ≠ H1.nxt) (fun i => min n.toNat 4000 - i) 0 ⟨Nat.zero_le _, wG, Nat.le_refl _, fun _ _ _ h => h, Kept.start hv hl, d1, S1, bG, oG, F1.1, hS1⟩ ?_
    rintro i H' ⟨hi, hw', hn', hk', hkp, ds, S, hB, ho, hn, hS⟩
    have bm2 := hk' _ _ (by omega) bm0
    have br2 := hk' _ _ (by omega) br0
    have hs : Sub H H' := ⟨by have := zG.1; omega, fun x B hX => hk' x B (by have := hw.lt hX; omega) (zG.2 _ _ hX)⟩
    have q2 : ds.length = 6 := Ob.len (Own.rep (W0 := W0) ho)
    have l2 : ds.all leafA = true := Ob.leaf (Own.rep (W0 := W0) ho)
    have t2 : ds.take 6 = ds := List.take_of_length_le (by omega)
    have hlB := hw'.lt hB
    have ei : (i : Int).tmod 4 = ((i % 4 : Nat) : Int) := by rw [Int.tmod_eq_emod_of_nonneg (by omega)]; omega
    have hmod : i % 4 < 4 := Nat.mod_lt _ (by omega)
    rcases Nat.lt_or_ge i (min n.toNat 4000) with hlt | hge
    · have dk1 : decide ((i : Int) < n) = true := decide_eq_true (by omega)
      have dk2 : decide ((i : Int) < 4000) = true := decide_eq_true (by omega)
      have dk3 : decide ((i : Int) < (if (4000 : Int) < n then 4000 else n)) = true := decide_eq_true (by split <;> omega)
      repeat' (first | simp -implicitDefEqProofs only [go_sem] | (simp -implicitDefEqProofs only [hB, bm2, br2, q2, t2, if_false, List.drop_zero, Nat.le_refl, dk1, dk2, dk3, ei]))
      refine ACallK.of (l11Do_ok _ ds (roundsTo w i) (i % 4) S _ ho hn hkp.ok (by omega) (by have := hkp.lb.1; omega)).cl ?_
      rintro _ H2 ⟨⟨d2, S2, rfl, o2, g2⟩, k2⟩
      have bx2 := g2.2.1 H1.nxt _ (fun hm => (hS _ hm).2 rfl) hB
      have q3 : d2.length = 6 := Ob.len (Own.rep (W0 := W0) o2)
      have l3 : d2.all leafA = true := Ob.leaf (Own.rep (W0 := W0) o2)
      have hwr2 : wr ds 0 d2 = d2 := wr_all _ _ (by rw [q2, q3])
      repeat' (first | simp -implicitDefEqProofs only [go_sem] | (simp -implicitDefEqProofs only [bx2, hwr2, if_false, List.drop_zero, Nat.le_refl]) | (with_reducible refine And.intro q3 ?_) | (with_reducible refine And.intro l3 ?_) | simp -implicitDefEqProofs (disch := omega) only [wrap_in, u8_small, Int.tmod_eq_emod_of_nonneg, Int.tdiv_eq_ediv_of_nonneg] | (with_reducible refine And.intro (by omega) ?_) | fail)
      have hS2 : ∀ x ∈ S2, H.nxt + 2 ≤ x ∧ x ≠ H1.nxt := fun x hx => (g2.2.2.1 x hx).elim (hS x) (fun h => by omega)
      have hk2 : ∀ x B, x < H.nxt + 2 → G.blk x = some B → (H2.set H1.nxt ⟨d2, 6⟩).blk x = some B := fun x B h1 h2 => by
        rw [blk_set_ne _ (by omega)]; exact g2.2.1 x B (fun hm => by have := (hS x hm).1; omega) (hk' x B h1 h2)
      exact back (i + 1) ⟨by omega, k2.1.set (k2.1.lt bx2) _, by have := g2.1; first | omega | (simp only [nxt_set]; omega), by first | exact hk2 | (intro x B h1 h2; have h3 := hk2 x B h1 h2; simpa only [go_sem] using h3), hkp.step hmod, d2, S2, (by first | exact blk_set_self _ _ _ | rfl | simp only [if_true]), Own.eq o2 (fun x hx => blk_set_ne _ (hS2 x hx).2 _), g2.2.2.2, hS2⟩ (by first | omega | (simp only; omega))
    · obtain rfl : i = min n.toNat 4000 := by omega
      have dk : (decide (((min n.toNat 4000 : Nat) : Int) < n) && decide (((min n.toNat 4000 : Nat) : Int) < 4000)) = false := by rw [Bool.and_eq_false_iff]; by_cases h : n.toNat ≤ 4000; exact .inl (decide_eq_false (by omega)); exact .inr (decide_eq_false (by omega))
      have dk3 : decide (((min n.toNat 4000 : Nat) : Int) < (if (4000 : Int) < n then 4000 else n)) = false ∨ n < 0 := by by_cases h : n < 0; exact .inr h; exact .inl (decide_eq_false (by split <;> omega))
      have hval : roundsD w n = roundsTo w (min n.toNat 4000) := by unfold roundsD; rw [if_pos hv]
      repeat' (first | simp -implicitDefEqProofs only [go_sem] | (simp -implicitDefEqProofs only [hB, bm2, br2, q2, t2, if_false, List.drop_zero, Nat.le_refl]) | refine acond_decF (by omega) ?_ | refine agrd_dec (fun _ => ?_) (fun _ => ?_))
      all_goals first | (exfalso; omega) | skip
      all_goals (
        refine ACallK.of (l10Copy_ok _ ds (roundsTo w (min n.toNat 4000)) _ (Own.rep ho) (hkp.wb (by omega))).cl ?_
        rintro _ H3 ⟨⟨s3, S3, d3, rfl, o3, F3⟩, k3⟩
        have br3 := s3.2 _ _ br2
        have q3 : d3.length = 6 := Ob.len (Own.rep (W0 := W0) o3)
        have l3 : d3.all leafA = true := Ob.leaf (Own.rep (W0 := W0) o3)
        have t3 : d3.take 6 = d3 := List.take_of_length_le (by omega)
        repeat' (first | simp -implicitDefEqProofs only [go_sem] | (simp -implicitDefEqProofs only [br3, q3, t3, blk_set_self, if_false, List.drop_zero, Nat.le_refl]) | (with_reducible refine And.intro l3 ?_) | (rw [wr_all _ _ (by rw [q3]; rfl)]) | fail)
        rw [hval]
        exact retK_one ⟨(hs.trans s3).set hw (Nat.le_succ _) _, S3, _, rfl, Own.eq o3 (fun b hb => blk_set_ne _ (by have := F3.2 b hb; omega) _), F3.le hs.1⟩)
  · have hst : roundsD w n = w := by unfold roundsD; rw [if_neg hv]
    repeat' (first | simp -implicitDefEqProofs only [go_sem] | (simp -implicitDefEqProofs only [bm, br, e0, e1, q1, t1, blk_set_self, if_false, List.drop_zero, Nat.le_refl]) | (with_reducible refine And.intro l1 ?_) | (rw [wr_all _ _ (by rw [q1]; rfl)]) | (refine ACallK.eq (WorldOk_spec _ _ w _ (Ob.sub (z1.trans ((Sub.refl _).new k1.1 _ _)) hx)) ?_) | refine acond_split (fun _ => ?_) (fun _ => ?_))
    all_goals first
      | (exfalso; simp_all; done)
      | (rw [hst]
         exact retK_one ⟨(z1.trans ((Sub.refl _).new k1.1 _ _)).set hw (Nat.le_succ _) _, S1, _, rfl, Own.eq (Own.sub o1 ((Sub.refl _).new k1.1 d1 6)) (fun b hb => blk_set_ne _ (by have := hF1 b hb; omega) _), F1.le (by simp only [go_sem]; omega)⟩)
      | trace_state
theorem Finish_spec (W0 : World) (cs : List AV) (w : WorldD) (H : AH) (hx : Ob.rep W0 H cs w) (hb : WB w) (hl : LB 9000000 w) : ACalls Tryz.prog W0 32 [.agg cs] H (fun u H' => NewV H H' u (finishD w)) := by
  refine acallw Tryz.func32 rfl (by kernel_rfl) (by kernel_rfl) fun hc hw => ?_
  have hx0 := hx
  obtain ⟨xc, xj, xt, xl, rfl, f1, f2, f3, f4, is, inw⟩ := hx0
  have c1 := f1.one; have c2 := f2.one; have c3 := f3.one; have c4 := f4.one
  have p1 := f1.leaf; have p2 := f2.leaf; have p3 := f3.leaf; have p4 := f4.leaf
  repeat' (first | simp -implicitDefEqProofs only [go_sem])
  refine ACallK.of (l10Copy_ok _ _ w _ (Ob.sub (by repeat (first | exact Sub.refl _ | assumption | refine Sub.new (by assumption) ?_ _ _ | refine Sub.kill_new (by assumption) ?_ _ _ | refine Sub.trans ?_ (by assumption))) hx) hb).cl ?_
  rintro _ H1 ⟨⟨s1, S1, d1, rfl, o1, F1⟩, k1⟩
  have z1 : Sub H H1 := Sub.trans (by repeat (first | exact Sub.refl _ | assumption | refine Sub.new (by assumption) ?_ _ _ | refine Sub.kill_new (by assumption) ?_ _ _ | refine Sub.trans ?_ (by assumption))) s1
  have n1 := s1.1; simp only [go_sem] at n1
  have hF1 := F1.2; simp only [go_sem] at hF1
  have q1 : d1.length = 6 := Ob.len (Own.rep (W0 := W0) o1)
  have l1 : d1.all leafA = true := Ob.leaf (Own.rep (W0 := W0) o1)
  have t1 : d1.take 6 = d1 := List.take_of_length_le (by omega)
  have bm := s1.2 H.nxt _ (by simp only [go_sem]; rfl)
  have br := s1.2 (H.nxt + 1) _ (by simp only [go_sem]; rfl)
  have e0 : ¬ H.nxt = H1.nxt := by omega
  have e1 : ¬ H.nxt + 1 = H1.nxt := by omega
  by_cases hv : worldOk w = true
  · repeat' (first | simp -implicitDefEqProofs only [go_sem] | (simp -implicitDefEqProofs only [bm, br, e0, e1, q1, t1, if_false, List.drop_zero, Nat.le_refl]) | (with_reducible refine And.intro l1 ?_) | (rw [wr_all _ _ (by rw [q1]; rfl)]) | (refine ACallK.eq (WorldOk_spec _ _ w _ (Ob.sub (z1.trans ((Sub.refl _).new k1.1 _ _)) hx)) ?_; rw [hv]))
    have bm0 : (H1.new d1 6).blk H.nxt = some ⟨_, 6⟩ := (by simp only [go_sem, e0, if_false]; exact bm)
    have br0 : (H1.new d1 6).blk (H.nxt + 1) = some ⟨_, 6⟩ := (by simp only [go_sem, e1, if_false]; exact br)
    obtain ⟨G, hG⟩ : ∃ X, X = H1.new d1 6 := ⟨_, rfl⟩
    rw [← hG] at bm0 br0 ⊢
    have wG : G.wf := by rw [hG]; exact k1.1.new _ _
    have zG : Sub H G := by rw [hG]; exact z1.trans ((Sub.refl _).new k1.1 _ _)
    have bG : G.blk H1.nxt = some ⟨d1, 6⟩ := by rw [hG]; exact blk_new_self _ _ _
    have oG : Own.own G S1 d1 w := by rw [hG]; exact Own.sub o1 ((Sub.refl _).new k1.1 _ _)
    have nG : G.nxt = H1.nxt + 1 := by rw [hG]; rfl
    have hS1 : ∀ x ∈ S1, H.nxt + 2 ≤ x ∧ x ≠ H1.nxt := fun x hx => ⟨hF1 x hx, by have := k1.1.lt' (Own.isin o1 x hx); omega⟩
    clear hG
    refine acode_while (fun (p : Nat × WorldD) => [(1, .ptr H.nxt 0), (2, .ptr (H.nxt + 1) 0), (3, .ptr H1.nxt 0), (4, .v (.int .i64 p.1))]) (fun p H' => (p.1 ≤ 4000 ∧ finishTo w 0 4000 = finishTo p.2 p.1 (4000 - p.1)) ∧ H'.wf ∧ G.nxt ≤ H'.nxt ∧ (∀ x B, x < H.nxt + 2 → G.blk x = some B → H'.blk x = some B) ∧ Kept w p.2 p.1 ∧ ∃ ds S, H'.blk H1.nxt = some ⟨ds, 6⟩ ∧ Own.own H' S ds p.2 ∧ S.Nodup ∧ ∀ x ∈ S, H.nxt + 2 ≤ x ∧ x ≠ H1.nxt) (fun p => 4000 - p.1) (0, w) ⟨⟨Nat.zero_le _, rfl⟩, wG, Nat.le_refl _, fun _ _ _ h => h, Kept.start hv hl, d1, S1, bG, oG, F1.1, hS1⟩ ?_
    rintro ⟨i, c⟩ H' ⟨⟨hi, hfin⟩, hw', hn', hk', hkp, ds, S, hB, ho, hn, hS⟩
    simp only at hi hfin hkp ho ⊢
    have bm2 := hk' _ _ (by omega) bm0
    have br2 := hk' _ _ (by omega) br0
    have hs : Sub H H' := ⟨by have := zG.1; omega, fun x B hX => hk' x B (by have := hw.lt hX; omega) (zG.2 _ _ hX)⟩
    have q2 : ds.length = 6 := Ob.len (Own.rep (W0 := W0) ho)
    have l2 : ds.all leafA = true := Ob.leaf (Own.rep (W0 := W0) ho)
    have t2 : ds.take 6 = ds := List.take_of_length_le (by omega)
    have hlB := hw'.lt hB
    have ei : (i : Int).tmod 4 = ((i % 4 : Nat) : Int) := by rw [Int.tmod_eq_emod_of_nonneg (by omega)]; omega
    have hmod : i % 4 < 4 := Nat.mod_lt _ (by omega)
    by_cases hgo : i < 4000 ∧ ¬ idle c = true
    · have dk2 : decide ((i : Int) < 4000) = true := decide_eq_true (by omega)
      have hid : idle c = false := by simpa using hgo.2
      repeat' (first | simp -implicitDefEqProofs only [go_sem] | (simp -implicitDefEqProofs only [hB, bm2, br2, q2, t2, if_false, List.drop_zero, Nat.le_refl, dk2, ei]) | (refine ACallK.eq (Idle_spec _ _ c _ (Own.rep ho)) ?_; rw [hid]))
      refine ACallK.of (l11Do_ok _ ds c (i % 4) S _ ho hn hkp.ok (by omega) (by have := hkp.lb.1; omega)).cl ?_
      rintro _ H2 ⟨⟨d2, S2, rfl, o2, g2⟩, k2⟩
      have bx2 := g2.2.1 H1.nxt _ (fun hm => (hS _ hm).2 rfl) hB
      have q3 : d2.length = 6 := Ob.len (Own.rep (W0 := W0) o2)
      have l3 : d2.all leafA = true := Ob.leaf (Own.rep (W0 := W0) o2)
      have hwr2 : wr ds 0 d2 = d2 := wr_all _ _ (by rw [q2, q3])
      repeat' (first | simp -implicitDefEqProofs only [go_sem] | (simp -implicitDefEqProofs only [bx2, hwr2, if_false, List.drop_zero, Nat.le_refl]) | (with_reducible refine And.intro q3 ?_) | (with_reducible refine And.intro l3 ?_) | simp -implicitDefEqProofs (disch := omega) only [wrap_in, u8_small, Int.tmod_eq_emod_of_nonneg, Int.tdiv_eq_ediv_of_nonneg] | (with_reducible refine And.intro (by omega) ?_) | fail)
      have hS2 : ∀ x ∈ S2, H.nxt + 2 ≤ x ∧ x ≠ H1.nxt := fun x hx => (g2.2.2.1 x hx).elim (hS x) (fun h => by omega)
      have hk2 : ∀ x B, x < H.nxt + 2 → G.blk x = some B → (H2.set H1.nxt ⟨d2, 6⟩).blk x = some B := fun x B h1 h2 => by
        rw [blk_set_ne _ (by omega)]; exact g2.2.1 x B (fun hm => by have := (hS x hm).1; omega) (hk' x B h1 h2)
      exact back (i + 1, stepD c (i % 4)) ⟨⟨by simp only; omega, by simp only; rw [hfin, finishTo_go hgo.2 hgo.1]⟩, k2.1.set (k2.1.lt bx2) _, by have := g2.1; first | omega | (simp only [nxt_set]; omega), by first | exact hk2 | (intro x B h1 h2; have h3 := hk2 x B h1 h2; simpa only [go_sem] using h3), hkp.step hmod, d2, S2, (by first | exact blk_set_self _ _ _ | rfl | simp only [if_true]), Own.eq o2 (fun x hx => blk_set_ne _ (hS2 x hx).2 _), g2.2.2.2, hS2⟩ (by first | omega | (simp only; omega))
    · have hval : finishD w = c := by
        unfold finishD; rw [if_pos hv, hfin]
        by_cases h : idle c = true
        · exact finishTo_idle h _ _
        · rw [show i = 4000 by have := Nat.lt_or_ge i 4000; rcases this with h2 | h2; exact absurd ⟨h2, h⟩ hgo; omega]; rfl
      by_cases hid : idle c = true
      · skip
        repeat' (first | simp -implicitDefEqProofs only [go_sem] | (simp -implicitDefEqProofs only [hB, bm2, br2, q2, t2, if_false, List.drop_zero, Nat.le_refl]) | (refine ACallK.eq (Idle_spec _ _ c _ (Own.rep ho)) ?_; rw [hid]) | refine agrd_dec (fun _ => ?_) (fun _ => ?_))
        all_goals (
          refine ACallK.of (l10Copy_ok _ ds c _ (Own.rep ho) (hkp.wb (by omega))).cl ?_
          rintro _ H3 ⟨⟨s3, S3, d3, rfl, o3, F3⟩, k3⟩
          have br3 := s3.2 _ _ br2
          have q3 : d3.length = 6 := Ob.len (Own.rep (W0 := W0) o3)
          have l3 : d3.all leafA = true := Ob.leaf (Own.rep (W0 := W0) o3)
          have t3 : d3.take 6 = d3 := List.take_of_length_le (by omega)
          repeat' (first | simp -implicitDefEqProofs only [go_sem] | (simp -implicitDefEqProofs only [br3, q3, t3, blk_set_self, if_false, List.drop_zero, Nat.le_refl]) | (with_reducible refine And.intro l3 ?_) | (rw [wr_all _ _ (by rw [q3]; rfl)]) | fail)
          rw [hval]
          exact retK_one ⟨(hs.trans s3).set hw (Nat.le_succ _) _, S3, _, rfl, Own.eq o3 (fun b hb => blk_set_ne _ (by have := F3.2 b hb; omega) _), F3.le hs.1⟩)
      · have hid : idle c = false := by simpa using hid
        have dk2 : decide ((i : Int) < 4000) = false := decide_eq_false (by intro h; exact hgo ⟨by omega, by rw [hid]; decide⟩)
        repeat' (first | simp -implicitDefEqProofs only [go_sem] | (simp -implicitDefEqProofs only [hB, bm2, br2, q2, t2, if_false, List.drop_zero, Nat.le_refl, dk2]))
        all_goals (
          refine ACallK.of (l10Copy_ok _ ds c _ (Own.rep ho) (hkp.wb (by omega))).cl ?_
          rintro _ H3 ⟨⟨s3, S3, d3, rfl, o3, F3⟩, k3⟩
          have br3 := s3.2 _ _ br2
          have q3 : d3.length = 6 := Ob.len (Own.rep (W0 := W0) o3)
          have l3 : d3.all leafA = true := Ob.leaf (Own.rep (W0 := W0) o3)
          have t3 : d3.take 6 = d3 := List.take_of_length_le (by omega)
          repeat' (first | simp -implicitDefEqProofs only [go_sem] | (simp -implicitDefEqProofs only [br3, q3, t3, blk_set_self, if_false, List.drop_zero, Nat.le_refl]) | (with_reducible refine And.intro l3 ?_) | (rw [wr_all _ _ (by rw [q3]; rfl)]) | fail)
          rw [hval]
          exact retK_one ⟨(hs.trans s3).set hw (Nat.le_succ _) _, S3, _, rfl, Own.eq o3 (fun b hb => blk_set_ne _ (by have := F3.2 b hb; omega) _), F3.le hs.1⟩)
  · have hst : finishD w = w := by unfold finishD; rw [if_neg hv]
    repeat' (first | simp -implicitDefEqProofs only [go_sem] | (simp -implicitDefEqProofs only [bm, br, e0, e1, q1, t1, blk_set_self, if_false, List.drop_zero, Nat.le_refl]) | (with_reducible refine And.intro l1 ?_) | (rw [wr_all _ _ (by rw [q1]; rfl)]) | (refine ACallK.eq (WorldOk_spec _ _ w _ (Ob.sub (z1.trans ((Sub.refl _).new k1.1 _ _)) hx)) ?_) | refine acond_split (fun _ => ?_) (fun _ => ?_))
    all_goals first
      | (exfalso; simp_all; done)
      | (rw [hst]
         exact retK_one ⟨(z1.trans ((Sub.refl _).new k1.1 _ _)).set hw (Nat.le_succ _) _, S1, _, rfl, Own.eq (Own.sub o1 ((Sub.refl _).new k1.1 d1 6)) (fun b hb => blk_set_ne _ (by have := hF1 b hb; omega) _), F1.le (by simp only [go_sem]; omega)⟩)
      | trace_state
end Go.Proofs.YtipfnhfcoolhaaaGreat.Aw
end
