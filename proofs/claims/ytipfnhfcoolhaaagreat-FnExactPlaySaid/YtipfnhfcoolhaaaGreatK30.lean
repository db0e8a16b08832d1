/- Parts of a proof: Fwn Gq Fwh HScript QScript. -/
import Derived.Test.YtipfnhfcoolhaaaGreatK11
import Derived.Test.YtipfnhfcoolhaaaGreatK03
import Derived.Test.YtipfnhfcoolhaaaGreatK06
import Derived.Test.YtipfnhfcoolhaaaGreatK04
import Derived.Test.YtipfnhfcoolhaaaGreatK13
import Derived.Test.YtipfnhfcoolhaaaGreatK24
import Derived.Test.YtipfnhfcoolhaaaGreatK18
import Derived.Test.YtipfnhfcoolhaaaGreatK19
import Derived.Test.YtipfnhfcoolhaaaGreatK20
set_option linter.unusedVariables false
set_option linter.unusedSimpArgs false
section
namespace Go.Proofs.YtipfnhfcoolhaaaGreat.Aw
open Go Go.RowKit
set_option maxRecDepth 100000
set_option maxHeartbeats 2000000
attribute [-go_sem] wr_eq
theorem todoOk_bound {l : List QueueD} (h : todoOk l = true) : l.length = 4 ∧ ∀ q ∈ l, q.ops.length ≤ 10 := by
  unfold todoOk at h
  rw [Bool.and_eq_true, decide_eq_true_eq, List.all_eq_true] at h
  refine ⟨by omega, fun q hq => ?_⟩
  obtain ⟨i, hi, rfl⟩ := List.getElem_of_mem hq
  have h2 := h.2 i (List.mem_range.2 hi)
  unfold queueAt at h2
  rw [List.getElem?_eq_getElem hi] at h2
  simp only [queueOk, Bool.and_eq_true, decide_eq_true_eq] at h2
  omega
abbrev z18 : List AV := [.v (.bool false), .v (.int .i64 0), .v (.string ⟨#[]⟩), .v (.int .i64 0), .v (.int .i64 0), .v (.int .i64 0), .v (.int .i64 0), .v (.int .i64 0), .v (.int .i64 0), .v (.int .i64 0), .v (.int .i64 0), .v (.int .i64 0), .v (.int .i64 0), .v (.int .i64 0), .v (.int .i64 0), .v (.int .i64 0), .v (.slice none 0 0), .v (.slice none 0 0)]
theorem own_job0 (H : AH) : Own.own H [] z18 job0 := ⟨_, _, [], [], rfl, rfl, inI_z, by show (0 : Nat) ≤ big; exact Nat.zero_le _, inI_z, inI_z, inI_z, inI_z, inI_z, inI_z, inI_z, inI_z, inI_z, inI_z, inI_z, inI_z, inI_z, ownS_none _, ownS_none _⟩
theorem own_jobs {H : AH} {b : Nat} (h : H.blk b = some ⟨z18 ++ (z18 ++ (z18 ++ (z18 ++ []))), 18⟩) : OwnS H [b] (.sl b 0 4) (List.replicate 4 job0) := by
  refine .inr ⟨b, 0, _, [], rfl, h, by show 0 + 4 * 18 ≤ 72; omega, by simp [big], rfl, ?_⟩
  exact Owns.cons (S := []) (own_job0 H) (Owns.cons (S := []) (own_job0 H) (Owns.cons (S := []) (own_job0 H) (Owns.cons (S := []) (own_job0 H) .nil)))
theorem own_cells {H : AH} {b : Nat} (h : H.blk b = some ⟨List.replicate 71 (AV.v (.int .i64 0)), 1⟩) : OwnS H [b] (.sl b 0 71) (List.replicate 71 (0 : Int)) :=
  OwnS.ofFlat (xs := List.replicate 71 (0 : Int)) h rfl (by show 0 + 71 * 1 ≤ 71; omega) (by simp [big]) (fun x hx => by rw [List.eq_of_mem_replicate hx]; exact inI_z) rfl
theorem new_world {H H2 : AH} {l : List QueueD} {cb jb : Nat} {S : List Nat} {u : AV} (hs : Sub H H2) (hl : todoOk l = true) (hc : OwnS H2 [cb] (.sl cb 0 71) (List.replicate 71 (0 : Int))) (hj : OwnS H2 [jb] (.sl jb 0 4) (List.replicate 4 job0)) (ht : OwnS H2 S u l) (hn : S.Nodup) (hS : ∀ b ∈ S, H.nxt ≤ b ∧ b ≠ cb ∧ b ≠ jb) (h1 : H.nxt ≤ cb) (h2 : H.nxt ≤ jb) (h3 : cb ≠ jb) : NewV H H2 (.agg [.sl cb 0 71, .sl jb 0 4, u, .v (.slice none 0 0), .v (.int .i64 0), .v (.int .i64 0)]) (worldNew l) := by
  unfold worldNew
  rw [if_pos hl]
  refine ⟨hs, _, _, rfl, ⟨_, _, _, _, [cb], [jb], S, [], rfl, rfl, hc, hj, ht, ownS_none _, inI_z, inI_z⟩, ?_⟩
  refine ⟨?_, fun b hb => ?_⟩
  · simp only [List.append_nil, List.cons_append, List.nil_append, List.nodup_cons, List.mem_cons, not_or]
    exact ⟨⟨h3, fun h => (hS _ h).2.1 rfl⟩, fun h => (hS _ h).2.2 rfl, hn⟩
  · simp only [List.append_nil, List.cons_append, List.nil_append, List.mem_cons] at hb
    rcases hb with rfl | rfl | hb
    · exact h1
    · exact h2
    · exact (hS b hb).1
theorem new_none {H H2 : AH} {l : List QueueD} (hs : Sub H H2) (hl : ¬ todoOk l = true) : NewV H H2 (.agg [.v (.slice none 0 0), .v (.slice none 0 0), .v (.slice none 0 0), .v (.slice none 0 0), .v (.int .i64 0), .v (.int .i64 0)]) (worldNew l) := by
  unfold worldNew
  rw [if_neg hl]
  exact ⟨hs, _, _, rfl, ⟨_, _, _, _, [], [], [], [], rfl, rfl, ownS_none _, ownS_none _, ownS_none _, ownS_none _, inI_z, inI_z⟩, Fresh.nil _⟩
theorem WorldNew_spec (W0 : World) (v : AV) (l : List QueueD) (H : AH) (hx : SlR W0 H v l) : ACalls Tryz.prog W0 63 [v] H (fun u H' => NewV H H' u (worldNew l)) := by
  refine acallw Tryz.func63 rfl (by kernel_rfl) (by kernel_rfl) fun hc hw => ?_
  have hcl := hx.leaf
  have hco := hx.one
  repeat' (first | simp -implicitDefEqProofs only [go_sem] | (refine ACallK.eq (TodoOk_spec _ _ l _ (SlR.sub' hx)) ?_) | (simp -implicitDefEqProofs only [wr_succ, wr_zero, wr_none, set_set]) | (with_reducible refine And.intro (by omega) ?_) | ((with_reducible refine adraw_tree (.node [2] [(0, [2], (.node [] [(1, [2], (.node [] [(3, [], (.node [4] [(5, [], (.node [] []))]))])), (3, [], (.node [] [(1, [2], (.node [4] [(5, [], (.node [] []))]))]))])), (1, [2], (.node [] [(0, [2], (.node [] [(3, [], (.node [4] [(5, [], (.node [] []))]))])), (3, [], (.node [] [(0, [2], (.node [4] [(5, [], (.node [] []))]))]))])), (3, [], (.node [] [(0, [2], (.node [] [(1, [2], (.node [4] [(5, [], (.node [] []))]))])), (1, [2], (.node [] [(0, [2], (.node [4] [(5, [], (.node [] []))]))]))]))]) ?_ ?_ ?_); (· kernel_rfl); (· decide +kernel)) | refine acond_split (fun _ => ?_) (fun _ => ?_) | (with_reducible refine And.intro ?_ ?_))
  · exact retK_one (new_none (by repeat (first | exact Sub.refl _ | assumption | refine Sub.new (by assumption) ?_ _ _ | refine Sub.kill_new (by assumption) ?_ _ _ | refine Sub.trans ?_ (by assumption))) (by simp_all))
  all_goals (
    have hk : todoOk l = true := by simp_all
    have hb := todoOk_bound hk
    refine ACallK.of (l10Queues_ok _ v l _ (hx.sub (by repeat (first | exact Sub.refl _ | assumption | refine Sub.new (by assumption) ?_ _ _ | refine Sub.kill_new (by assumption) ?_ _ _ | refine Sub.trans ?_ (by assumption)))) (by omega) (fun q hq => by have := hb.2 q hq; omega)).cl ?_
    rintro u1 H1 ⟨⟨s1, S1, w1, F1⟩, c1⟩
    have n1 := s1.1; simp only [go_sem] at n1
    have a0 := s1.2 H.nxt _ (by simp only [go_sem]; rfl)
    have hF := F1.2; simp only [go_sem] at hF
    have l1 := w1.leaf; have p1 := w1.one
    have zH : Sub H H1 := Sub.trans (by repeat (first | exact Sub.refl _ | assumption | refine Sub.new (by assumption) ?_ _ _ | refine Sub.kill_new (by assumption) ?_ _ _ | refine Sub.trans ?_ (by assumption))) s1)
  · skip
    have a1 := s1.2 (H.nxt + 1) _ (by simp only [go_sem]; rfl)
    have a2 := s1.2 (H.nxt + 2) _ (by simp only [go_sem]; rfl)
    repeat' (first | simp -implicitDefEqProofs only [go_sem] | (simp -implicitDefEqProofs only [a0, if_false, l1, p1, set_set, wr_succ, wr_zero, wr_none, go_sem]))
    exact retK_one (new_world (H := H) (cb := H.nxt + 1) (jb := H.nxt + 2) (Sub.set hw (by first | exact zH | exact zH.trans ((Sub.refl _).new c1.1 _ _) | exact zH.trans (((Sub.refl _).new c1.1 _ _).trans ((Sub.refl _).new (c1.1.new _ _) _ _))) (Nat.le_refl _) _) hk (own_cells (by simp only [go_sem]; (repeat' split) <;> first | (exfalso; omega) | exact a1 | exact a2 | rfl)) (own_jobs (by simp only [go_sem]; (repeat' split) <;> first | (exfalso; omega) | exact a1 | exact a2 | rfl)) (OwnS.eq w1 (fun b hb => by have := hF b hb; have := c1.1.lt' (w1.isin b hb); simp only [go_sem, if_neg (show ¬ b = H.nxt by omega), if_neg (show ¬ b = H1.nxt by omega), if_neg (show ¬ b = H1.nxt + 1 by omega)])) F1.1 (fun b hb => by have := hF b hb; have := c1.1.lt' (w1.isin b hb); omega) (by omega) (by omega) (by omega))
  · skip
    have a1 := s1.2 (H.nxt + 1) _ (by simp only [go_sem]; rfl)
    have e0 : ¬ H.nxt = H1.nxt := by omega
    have e2 : ¬ H.nxt = H1.nxt + 1 := by omega
    repeat' (first | simp -implicitDefEqProofs only [go_sem] | (simp -implicitDefEqProofs only [a0, e0, e2, if_false, l1, p1, set_set, wr_succ, wr_zero, wr_none, go_sem]) | (with_reducible refine And.intro (by omega) ?_) | fail)
    exact retK_one (new_world (H := H) (cb := H.nxt + 1) (jb := H1.nxt) (Sub.set hw (by first | exact zH | exact zH.trans ((Sub.refl _).new c1.1 _ _) | exact zH.trans (((Sub.refl _).new c1.1 _ _).trans ((Sub.refl _).new (c1.1.new _ _) _ _))) (Nat.le_refl _) _) hk (own_cells (by simp only [go_sem]; (repeat' split) <;> first | (exfalso; omega) | exact a1 | exact a2 | rfl)) (own_jobs (by simp only [go_sem]; (repeat' split) <;> first | (exfalso; omega) | exact a1 | exact a2 | rfl)) (OwnS.eq w1 (fun b hb => by have := hF b hb; have := c1.1.lt' (w1.isin b hb); simp only [go_sem, if_neg (show ¬ b = H.nxt by omega), if_neg (show ¬ b = H1.nxt by omega), if_neg (show ¬ b = H1.nxt + 1 by omega)])) F1.1 (fun b hb => by have := hF b hb; have := c1.1.lt' (w1.isin b hb); omega) (by omega) (by omega) (by omega))
  · skip
    have a1 := s1.2 (H.nxt + 1) _ (by simp only [go_sem]; rfl)
    have a2 := s1.2 (H.nxt + 2) _ (by simp only [go_sem]; rfl)
    repeat' (first | simp -implicitDefEqProofs only [go_sem] | (simp -implicitDefEqProofs only [a0, if_false, l1, p1, set_set, wr_succ, wr_zero, wr_none, go_sem]))
    exact retK_one (new_world (H := H) (cb := H.nxt + 2) (jb := H.nxt + 1) (Sub.set hw (by first | exact zH | exact zH.trans ((Sub.refl _).new c1.1 _ _) | exact zH.trans (((Sub.refl _).new c1.1 _ _).trans ((Sub.refl _).new (c1.1.new _ _) _ _))) (Nat.le_refl _) _) hk (own_cells (by simp only [go_sem]; (repeat' split) <;> first | (exfalso; omega) | exact a1 | exact a2 | rfl)) (own_jobs (by simp only [go_sem]; (repeat' split) <;> first | (exfalso; omega) | exact a1 | exact a2 | rfl)) (OwnS.eq w1 (fun b hb => by have := hF b hb; have := c1.1.lt' (w1.isin b hb); simp only [go_sem, if_neg (show ¬ b = H.nxt by omega), if_neg (show ¬ b = H1.nxt by omega), if_neg (show ¬ b = H1.nxt + 1 by omega)])) F1.1 (fun b hb => by have := hF b hb; have := c1.1.lt' (w1.isin b hb); omega) (by omega) (by omega) (by omega))
  · skip
    have a1 := s1.2 (H.nxt + 1) _ (by simp only [go_sem]; rfl)
    have e0 : ¬ H.nxt = H1.nxt := by omega
    have e2 : ¬ H.nxt = H1.nxt + 1 := by omega
    repeat' (first | simp -implicitDefEqProofs only [go_sem] | (simp -implicitDefEqProofs only [a0, e0, e2, if_false, l1, p1, set_set, wr_succ, wr_zero, wr_none, go_sem]) | (with_reducible refine And.intro (by omega) ?_) | fail)
    exact retK_one (new_world (H := H) (cb := H1.nxt) (jb := H.nxt + 1) (Sub.set hw (by first | exact zH | exact zH.trans ((Sub.refl _).new c1.1 _ _) | exact zH.trans (((Sub.refl _).new c1.1 _ _).trans ((Sub.refl _).new (c1.1.new _ _) _ _))) (Nat.le_refl _) _) hk (own_cells (by simp only [go_sem]; (repeat' split) <;> first | (exfalso; omega) | exact a1 | exact a2 | rfl)) (own_jobs (by simp only [go_sem]; (repeat' split) <;> first | (exfalso; omega) | exact a1 | exact a2 | rfl)) (OwnS.eq w1 (fun b hb => by have := hF b hb; have := c1.1.lt' (w1.isin b hb); simp only [go_sem, if_neg (show ¬ b = H.nxt by omega), if_neg (show ¬ b = H1.nxt by omega), if_neg (show ¬ b = H1.nxt + 1 by omega)])) F1.1 (fun b hb => by have := hF b hb; have := c1.1.lt' (w1.isin b hb); omega) (by omega) (by omega) (by omega))
  · skip
    have e0 : ¬ H.nxt = H1.nxt := by omega
    have e2 : ¬ H.nxt = H1.nxt + 1 := by omega
    repeat' (first | simp -implicitDefEqProofs only [go_sem] | (simp -implicitDefEqProofs only [a0, e0, e2, if_false, l1, p1, set_set, wr_succ, wr_zero, wr_none, go_sem]) | (with_reducible refine And.intro (by omega) ?_) | (with_reducible refine And.intro ?_ ?_))
    · skip
      exact retK_one (new_world (H := H) (cb := H1.nxt) (jb := H1.nxt + 1) (Sub.set hw (by first | exact zH | exact zH.trans ((Sub.refl _).new c1.1 _ _) | exact zH.trans (((Sub.refl _).new c1.1 _ _).trans ((Sub.refl _).new (c1.1.new _ _) _ _))) (Nat.le_refl _) _) hk (own_cells (by simp only [go_sem]; (repeat' split) <;> first | (exfalso; omega) | exact a1 | exact a2 | rfl)) (own_jobs (by simp only [go_sem]; (repeat' split) <;> first | (exfalso; omega) | exact a1 | exact a2 | rfl)) (OwnS.eq w1 (fun b hb => by have := hF b hb; have := c1.1.lt' (w1.isin b hb); simp only [go_sem, if_neg (show ¬ b = H.nxt by omega), if_neg (show ¬ b = H1.nxt by omega), if_neg (show ¬ b = H1.nxt + 1 by omega)])) F1.1 (fun b hb => by have := hF b hb; have := c1.1.lt' (w1.isin b hb); omega) (by omega) (by omega) (by omega))
    · skip
      exact retK_one (new_world (H := H) (cb := H1.nxt + 1) (jb := H1.nxt) (Sub.set hw (by first | exact zH | exact zH.trans ((Sub.refl _).new c1.1 _ _) | exact zH.trans (((Sub.refl _).new c1.1 _ _).trans ((Sub.refl _).new (c1.1.new _ _) _ _))) (Nat.le_refl _) _) hk (own_cells (by simp only [go_sem]; (repeat' split) <;> first | (exfalso; omega) | exact a1 | exact a2 | rfl)) (own_jobs (by simp only [go_sem]; (repeat' split) <;> first | (exfalso; omega) | exact a1 | exact a2 | rfl)) (OwnS.eq w1 (fun b hb => by have := hF b hb; have := c1.1.lt' (w1.isin b hb); simp only [go_sem, if_neg (show ¬ b = H.nxt by omega), if_neg (show ¬ b = H1.nxt by omega), if_neg (show ¬ b = H1.nxt + 1 by omega)])) F1.1 (fun b hb => by have := hF b hb; have := c1.1.lt' (w1.isin b hb); omega) (by omega) (by omega) (by omega))
theorem WorldNew_impl (W0 : World) (v : AV) (l : List QueueD) (H : AH) (hx : SlR W0 H v l) : ACalls Tryz.prog W0 68 [v] H (fun u H' => NewV H H' u (worldNew l)) := by
  refine acallw Tryz.func68 rfl (by kernel_rfl) (by kernel_rfl) fun hc hw => ?_
  have hcl := hx.leaf
  have hco := hx.one
  repeat' (first | simp -implicitDefEqProofs only [go_sem] | (refine ACallK.eq (TodoOk_impl _ _ l _ (SlR.sub' hx)) ?_) | (simp -implicitDefEqProofs only [wr_succ, wr_zero, wr_none, set_set]) | (with_reducible refine And.intro (by omega) ?_) | ((with_reducible refine adraw_tree (.node [2] [(0, [2], (.node [] [(1, [2], (.node [] [(3, [], (.node [4] [(5, [], (.node [] []))]))])), (3, [], (.node [] [(1, [2], (.node [4] [(5, [], (.node [] []))]))]))])), (1, [2], (.node [] [(0, [2], (.node [] [(3, [], (.node [4] [(5, [], (.node [] []))]))])), (3, [], (.node [] [(0, [2], (.node [4] [(5, [], (.node [] []))]))]))])), (3, [], (.node [] [(0, [2], (.node [] [(1, [2], (.node [4] [(5, [], (.node [] []))]))])), (1, [2], (.node [] [(0, [2], (.node [4] [(5, [], (.node [] []))]))]))]))]) ?_ ?_ ?_); (· kernel_rfl); (· decide +kernel)) | refine acond_split (fun _ => ?_) (fun _ => ?_) | (with_reducible refine And.intro ?_ ?_))
  · exact retK_one (new_none (by repeat (first | exact Sub.refl _ | assumption | refine Sub.new (by assumption) ?_ _ _ | refine Sub.kill_new (by assumption) ?_ _ _ | refine Sub.trans ?_ (by assumption))) (by simp_all))
  all_goals (
    have hk : todoOk l = true := by simp_all
    have hb := todoOk_bound hk
    refine ACallK.of (queuesCopy_ok _ v l _ (hx.sub (by repeat (first | exact Sub.refl _ | assumption | refine Sub.new (by assumption) ?_ _ _ | refine Sub.kill_new (by assumption) ?_ _ _ | refine Sub.trans ?_ (by assumption)))) (by omega) (fun q hq => by have := hb.2 q hq; omega)).cl ?_
    rintro u1 H1 ⟨⟨s1, S1, w1, F1⟩, c1⟩
    have n1 := s1.1; simp only [go_sem] at n1
    have a0 := s1.2 H.nxt _ (by simp only [go_sem]; rfl)
    have hF := F1.2; simp only [go_sem] at hF
    have l1 := w1.leaf; have p1 := w1.one
    have zH : Sub H H1 := Sub.trans (by repeat (first | exact Sub.refl _ | assumption | refine Sub.new (by assumption) ?_ _ _ | refine Sub.kill_new (by assumption) ?_ _ _ | refine Sub.trans ?_ (by assumption))) s1)
  · skip
    have a1 := s1.2 (H.nxt + 1) _ (by simp only [go_sem]; rfl)
    have a2 := s1.2 (H.nxt + 2) _ (by simp only [go_sem]; rfl)
    repeat' (first | simp -implicitDefEqProofs only [go_sem] | (simp -implicitDefEqProofs only [a0, if_false, l1, p1, set_set, wr_succ, wr_zero, wr_none, go_sem]))
    exact retK_one (new_world (H := H) (cb := H.nxt + 1) (jb := H.nxt + 2) (Sub.set hw (by first | exact zH | exact zH.trans ((Sub.refl _).new c1.1 _ _) | exact zH.trans (((Sub.refl _).new c1.1 _ _).trans ((Sub.refl _).new (c1.1.new _ _) _ _))) (Nat.le_refl _) _) hk (own_cells (by simp only [go_sem]; (repeat' split) <;> first | (exfalso; omega) | exact a1 | exact a2 | rfl)) (own_jobs (by simp only [go_sem]; (repeat' split) <;> first | (exfalso; omega) | exact a1 | exact a2 | rfl)) (OwnS.eq w1 (fun b hb => by have := hF b hb; have := c1.1.lt' (w1.isin b hb); simp only [go_sem, if_neg (show ¬ b = H.nxt by omega), if_neg (show ¬ b = H1.nxt by omega), if_neg (show ¬ b = H1.nxt + 1 by omega)])) F1.1 (fun b hb => by have := hF b hb; have := c1.1.lt' (w1.isin b hb); omega) (by omega) (by omega) (by omega))
  · skip
    have a1 := s1.2 (H.nxt + 1) _ (by simp only [go_sem]; rfl)
    have e0 : ¬ H.nxt = H1.nxt := by omega
    have e2 : ¬ H.nxt = H1.nxt + 1 := by omega
    repeat' (first | simp -implicitDefEqProofs only [go_sem] | (simp -implicitDefEqProofs only [a0, e0, e2, if_false, l1, p1, set_set, wr_succ, wr_zero, wr_none, go_sem]) | (with_reducible refine And.intro (by omega) ?_) | fail)
    exact retK_one (new_world (H := H) (cb := H.nxt + 1) (jb := H1.nxt) (Sub.set hw (by first | exact zH | exact zH.trans ((Sub.refl _).new c1.1 _ _) | exact zH.trans (((Sub.refl _).new c1.1 _ _).trans ((Sub.refl _).new (c1.1.new _ _) _ _))) (Nat.le_refl _) _) hk (own_cells (by simp only [go_sem]; (repeat' split) <;> first | (exfalso; omega) | exact a1 | exact a2 | rfl)) (own_jobs (by simp only [go_sem]; (repeat' split) <;> first | (exfalso; omega) | exact a1 | exact a2 | rfl)) (OwnS.eq w1 (fun b hb => by have := hF b hb; have := c1.1.lt' (w1.isin b hb); simp only [go_sem, if_neg (show ¬ b = H.nxt by omega), if_neg (show ¬ b = H1.nxt by omega), if_neg (show ¬ b = H1.nxt + 1 by omega)])) F1.1 (fun b hb => by have := hF b hb; have := c1.1.lt' (w1.isin b hb); omega) (by omega) (by omega) (by omega))
  · skip
    have a1 := s1.2 (H.nxt + 1) _ (by simp only [go_sem]; rfl)
    have a2 := s1.2 (H.nxt + 2) _ (by simp only [go_sem]; rfl)
    repeat' (first | simp -implicitDefEqProofs only [go_sem] | (simp -implicitDefEqProofs only [a0, if_false, l1, p1, set_set, wr_succ, wr_zero, wr_none, go_sem]))
    exact retK_one (new_world (H := H) (cb := H.nxt + 2) (jb := H.nxt + 1) (Sub.set hw (by first | exact zH | exact zH.trans ((Sub.refl _).new c1.1 _ _) | exact zH.trans (((Sub.refl _).new c1.1 _ _).trans ((Sub.refl _).new (c1.1.new _ _) _ _))) (Nat.le_refl _) _) hk (own_cells (by simp only [go_sem]; (repeat' split) <;> first | (exfalso; omega) | exact a1 | exact a2 | rfl)) (own_jobs (by simp only [go_sem]; (repeat' split) <;> first | (exfalso; omega) | exact a1 | exact a2 | rfl)) (OwnS.eq w1 (fun b hb => by have := hF b hb; have := c1.1.lt' (w1.isin b hb); simp only [go_sem, if_neg (show ¬ b = H.nxt by omega), if_neg (show ¬ b = H1.nxt by omega), if_neg (show ¬ b = H1.nxt + 1 by omega)])) F1.1 (fun b hb => by have := hF b hb; have := c1.1.lt' (w1.isin b hb); omega) (by omega) (by omega) (by omega))
  · skip
    have a1 := s1.2 (H.nxt + 1) _ (by simp only [go_sem]; rfl)
    have e0 : ¬ H.nxt = H1.nxt := by omega
    have e2 : ¬ H.nxt = H1.nxt + 1 := by omega
    repeat' (first | simp -implicitDefEqProofs only [go_sem] | (simp -implicitDefEqProofs only [a0, e0, e2, if_false, l1, p1, set_set, wr_succ, wr_zero, wr_none, go_sem]) | (with_reducible refine And.intro (by omega) ?_) | fail)
    exact retK_one (new_world (H := H) (cb := H1.nxt) (jb := H.nxt + 1) (Sub.set hw (by first | exact zH | exact zH.trans ((Sub.refl _).new c1.1 _ _) | exact zH.trans (((Sub.refl _).new c1.1 _ _).trans ((Sub.refl _).new (c1.1.new _ _) _ _))) (Nat.le_refl _) _) hk (own_cells (by simp only [go_sem]; (repeat' split) <;> first | (exfalso; omega) | exact a1 | exact a2 | rfl)) (own_jobs (by simp only [go_sem]; (repeat' split) <;> first | (exfalso; omega) | exact a1 | exact a2 | rfl)) (OwnS.eq w1 (fun b hb => by have := hF b hb; have := c1.1.lt' (w1.isin b hb); simp only [go_sem, if_neg (show ¬ b = H.nxt by omega), if_neg (show ¬ b = H1.nxt by omega), if_neg (show ¬ b = H1.nxt + 1 by omega)])) F1.1 (fun b hb => by have := hF b hb; have := c1.1.lt' (w1.isin b hb); omega) (by omega) (by omega) (by omega))
  · skip
    have e0 : ¬ H.nxt = H1.nxt := by omega
    have e2 : ¬ H.nxt = H1.nxt + 1 := by omega
    repeat' (first | simp -implicitDefEqProofs only [go_sem] | (simp -implicitDefEqProofs only [a0, e0, e2, if_false, l1, p1, set_set, wr_succ, wr_zero, wr_none, go_sem]) | (with_reducible refine And.intro (by omega) ?_) | (with_reducible refine And.intro ?_ ?_))
    · skip
      exact retK_one (new_world (H := H) (cb := H1.nxt) (jb := H1.nxt + 1) (Sub.set hw (by first | exact zH | exact zH.trans ((Sub.refl _).new c1.1 _ _) | exact zH.trans (((Sub.refl _).new c1.1 _ _).trans ((Sub.refl _).new (c1.1.new _ _) _ _))) (Nat.le_refl _) _) hk (own_cells (by simp only [go_sem]; (repeat' split) <;> first | (exfalso; omega) | exact a1 | exact a2 | rfl)) (own_jobs (by simp only [go_sem]; (repeat' split) <;> first | (exfalso; omega) | exact a1 | exact a2 | rfl)) (OwnS.eq w1 (fun b hb => by have := hF b hb; have := c1.1.lt' (w1.isin b hb); simp only [go_sem, if_neg (show ¬ b = H.nxt by omega), if_neg (show ¬ b = H1.nxt by omega), if_neg (show ¬ b = H1.nxt + 1 by omega)])) F1.1 (fun b hb => by have := hF b hb; have := c1.1.lt' (w1.isin b hb); omega) (by omega) (by omega) (by omega))
    · skip
      exact retK_one (new_world (H := H) (cb := H1.nxt + 1) (jb := H1.nxt) (Sub.set hw (by first | exact zH | exact zH.trans ((Sub.refl _).new c1.1 _ _) | exact zH.trans (((Sub.refl _).new c1.1 _ _).trans ((Sub.refl _).new (c1.1.new _ _) _ _))) (Nat.le_refl _) _) hk (own_cells (by simp only [go_sem]; (repeat' split) <;> first | (exfalso; omega) | exact a1 | exact a2 | rfl)) (own_jobs (by simp only [go_sem]; (repeat' split) <;> first | (exfalso; omega) | exact a1 | exact a2 | rfl)) (OwnS.eq w1 (fun b hb => by have := hF b hb; have := c1.1.lt' (w1.isin b hb); simp only [go_sem, if_neg (show ¬ b = H.nxt by omega), if_neg (show ¬ b = H1.nxt by omega), if_neg (show ¬ b = H1.nxt + 1 by omega)])) F1.1 (fun b hb => by have := hF b hb; have := c1.1.lt' (w1.isin b hb); omega) (by omega) (by omega) (by omega))
end Go.Proofs.YtipfnhfcoolhaaaGreat.Aw
end
section
namespace Go.Proofs.YtipfnhfcoolhaaaGreat.Aw
open Go Go.RowKit
set_option maxRecDepth 100000
set_option maxHeartbeats 4000000
attribute [-go_sem] wr_eq
theorem Play_impl (W0 : World) (cs : List AV) (x : ScriptD) (H : AH) (hx : Ob.rep W0 H cs x) : ACalls Tryz.prog W0 20 [.agg cs] H (fun u H' => NewV H H' u (playD x)) := by
  refine acallw Tryz.func20 rfl (by kernel_rfl) (by kernel_rfl) fun hc hw => ?_
  have hx0 := hx
  obtain ⟨xt, xp, rfl, f1, f2⟩ := hx0
  have c1 := f1.one; have c2 := f2.one
  have p1 := f1.leaf; have p2 := f2.leaf
  have hpb := f2.2.1; simp only [big] at hpb
  repeat' (first | simp -implicitDefEqProofs only [go_sem])
  refine ACallK.of (WorldNew_impl _ xt x.todo _ (f1.sub (by repeat (first | exact Sub.refl _ | assumption | refine Sub.new (by assumption) ?_ _ _ | refine Sub.kill_new (by assumption) ?_ _ _ | refine Sub.trans ?_ (by assumption))))).cl ?_
  rintro _ H1 ⟨⟨s1, S1, d1, rfl, o1, F1⟩, k1⟩
  have z1 : Sub H H1 := Sub.trans (by repeat (first | exact Sub.refl _ | assumption | refine Sub.new (by assumption) ?_ _ _ | refine Sub.kill_new (by assumption) ?_ _ _ | refine Sub.trans ?_ (by assumption))) s1
  have n1 := s1.1; simp only [go_sem] at n1
  have hF1 := F1.2; simp only [go_sem] at hF1
  have q1 : d1.length = 6 := Ob.len (Own.rep (W0 := W0) o1)
  have l1 : d1.all leafA = true := Ob.leaf (Own.rep (W0 := W0) o1)
  have t1 : d1.take 6 = d1 := List.take_of_length_le (by omega)
  have bm := s1.2 H.nxt _ (by simp only [go_sem]; rfl)
  have br := s1.2 (H.nxt + 1) _ (by simp only [go_sem]; rfl)
  have e0 : ¬ H.nxt = H1.nxt := by omega
  have e1 : ¬ H.nxt + 1 = H1.nxt := by omega
  have hmn : (if (500 : Int) < (x.picks.length : Int) then (500 : Int) else (x.picks.length : Int)) = ((min x.picks.length 500 : Nat) : Int) := by split <;> omega
  repeat' (first | simp -implicitDefEqProofs only [go_sem] | (simp -implicitDefEqProofs only [bm, br, e0, e1, q1, t1, c1, c2, hmn, if_false, List.drop_zero, Nat.le_refl]) | (with_reducible refine And.intro l1 ?_) | (rw [wr_all _ _ (by rw [q1]; rfl)]) | (refine asl_sl f2 ?_) | (refine aslE_sl (l := 0) (h := ((min x.picks.length 500 : Nat) : Int)) f2 (fun hsl => ?_) (hs := z1.trans ((Sub.refl _).new k1.1 _ _)); rw [show (0 : Int).toNat = 0 from rfl, Int.toNat_natCast, List.drop_zero, Nat.sub_zero] at hsl; generalize hvs : slA 1 xp 0 (min x.picks.length 500) = vs at hsl ⊢) | refine abi_len_sl' (by assumption) ?_ | fail)
  have bm0 : (H1.new d1 6).blk H.nxt = some ⟨[xt, xp], 2⟩ := (by simp only [go_sem, e0, if_false]; exact bm)
  have br0 : (H1.new d1 6).blk (H.nxt + 1) = some ⟨_, 6⟩ := (by simp only [go_sem, e1, if_false]; exact br)
  obtain ⟨G, hG⟩ : ∃ X, X = H1.new d1 6 := ⟨_, rfl⟩
  rw [← hG] at bm0 br0 ⊢
  have wG : G.wf := by rw [hG]; exact k1.1.new _ _
  have zG : Sub H G := by rw [hG]; exact z1.trans ((Sub.refl _).new k1.1 _ _)
  have bG : G.blk H1.nxt = some ⟨d1, 6⟩ := by rw [hG]; exact blk_new_self _ _ _
  have oG : Own.own G S1 d1 (worldNew x.todo) := by rw [hG]; exact Own.sub o1 ((Sub.refl _).new k1.1 _ _)
  have nG : G.nxt = H1.nxt + 1 := by rw [hG]; rfl
  have hS1 : ∀ y ∈ S1, H.nxt + 2 ≤ y ∧ y ≠ H1.nxt := fun y hy => ⟨hF1 y hy, by have := k1.1.lt' (Own.isin o1 y hy); omega⟩
  clear hG
  rw [hvs]
  have hm : (x.picks.take (min x.picks.length 500)).length = min x.picks.length 500 := by simp
  repeat' (first | simp -implicitDefEqProofs only [go_sem] | refine abi_len_sl' (by assumption) ?_ | fail)
  refine acode_while (fun i : Nat => [(2, .ptr (H.nxt + 1) 0), (3, .ptr H1.nxt 0), (15, vs), (16, .v (.int .i64 (x.picks.take (min x.picks.length 500)).length)), (17, .v (.int .i64 i))]) (fun i H' => i ≤ min x.picks.length 500 ∧ H'.wf ∧ G.nxt ≤ H'.nxt ∧ (∀ x B, x < H.nxt + 2 → G.blk x = some B → H'.blk x = some B) ∧ ∃ ds S, H'.blk H1.nxt = some ⟨ds, 6⟩ ∧ Own.own H' S ds (playTo (worldNew x.todo) (x.picks.take i)) ∧ S.Nodup ∧ ∀ x ∈ S, H.nxt + 2 ≤ x ∧ x ≠ H1.nxt) (fun i => min x.picks.length 500 - i) 0 ⟨Nat.zero_le _, wG, Nat.le_refl _, fun _ _ _ h => h, d1, S1, bG, oG, F1.1, hS1⟩ ?_ (by simp only [frOk, go_sem]; first | done | exact hvs | simp [hvs])
  rintro i H' ⟨hi, hw', hn', hk', ds, S, hB, ho, hn, hS⟩
  have bm2 := hk' _ _ (by omega) bm0
  have br2 := hk' _ _ (by omega) br0
  have hs : Sub H H' := ⟨by have := zG.1; omega, fun y B hX => hk' y B (by have := hw.lt hX; omega) (zG.2 _ _ hX)⟩
  have q2 : ds.length = 6 := Ob.len (Own.rep (W0 := W0) ho)
  have l2 : ds.all leafA = true := Ob.leaf (Own.rep (W0 := W0) ho)
  have t2 : ds.take 6 = ds := List.take_of_length_le (by omega)
  have hlB := hw'.lt hB
  rcases Nat.lt_or_ge i (min x.picks.length 500) with hlt | hge
  · have dk1 : decide ((i : Int) < ((x.picks.take (min x.picks.length 500)).length : Int)) = true := decide_eq_true (by omega)
    have htk : x.picks.take (i + 1) = x.picks.take i ++ [(x.picks.take (min x.picks.length 500)).getD i 0] := by
      rw [List.take_succ_eq_append_getElem (by omega : i < x.picks.length), List.getD_eq_getElem?_getD, List.getElem?_take, if_pos hlt, List.getElem?_eq_getElem (by omega)]; rfl
    have hnext : playTo (worldNew x.todo) (x.picks.take (i + 1)) = stepS (playTo (worldNew x.todo) (x.picks.take i)) ((x.picks.take (min x.picks.length 500)).getD i 0) := by rw [htk, playTo_snoc]
    repeat' (first | simp -implicitDefEqProofs only [go_sem] | (simp -implicitDefEqProofs only [hB, bm2, br2, q2, t2, c1, c2, if_false, List.drop_zero, Nat.le_refl, dk1]) | (refine ixI hsl ?_ (hs := hs)) | (refine rdI hsl ?_ (hs := hs)))
    generalize hpk : (x.picks.take (min x.picks.length 500)).getD i 0 = pk at *
    refine ACallK.of (Step_impl0 _ ds (playTo (worldNew x.todo) (x.picks.take i)) pk _ (Own.rep ho) (play_wb x.todo _ (by rw [List.length_take]; omega))).cl ?_
    rintro _ H2 ⟨⟨s2, S2, d2, rfl, o2, F2⟩, k2⟩
    have bx2 := s2.2 _ _ hB
    have q3 : d2.length = 6 := Ob.len (Own.rep (W0 := W0) o2)
    have l3 : d2.all leafA = true := Ob.leaf (Own.rep (W0 := W0) o2)
    have hwr2 : wr ds 0 d2 = d2 := wr_all _ _ (by rw [q2, q3])
    repeat' (first | simp -implicitDefEqProofs only [go_sem] | (simp -implicitDefEqProofs only [bx2, hwr2, if_false, List.drop_zero, Nat.le_refl]) | (with_reducible refine And.intro q3 ?_) | (with_reducible refine And.intro l3 ?_) | simp -implicitDefEqProofs (disch := omega) only [wrap_in, u8_small, Int.tmod_eq_emod_of_nonneg, Int.tdiv_eq_ediv_of_nonneg] | (with_reducible refine And.intro (by omega) ?_) | fail)
    have hS2 : ∀ x ∈ S2, H.nxt + 2 ≤ x ∧ x ≠ H1.nxt := fun x hx => by have := F2.2 x hx; omega
    have hk2 : ∀ x B, x < H.nxt + 2 → G.blk x = some B → (H2.set H1.nxt ⟨d2, 6⟩).blk x = some B := fun x B h1 h2 => by
      rw [blk_set_ne _ (by omega)]; exact s2.2 x B (hk' x B h1 h2)
    have g2 := s2
    exact back (i + 1) ⟨by omega, k2.1.set (k2.1.lt bx2) _, by have := g2.1; first | omega | (simp only [nxt_set]; omega), by first | exact hk2 | (intro x B h1 h2; have h3 := hk2 x B h1 h2; simpa only [go_sem] using h3), d2, S2, (by first | exact blk_set_self _ _ _ | rfl | simp only [if_true]), (by rw [hnext]; exact Own.eq o2 (fun y hy => blk_set_ne _ (hS2 y hy).2 _)), F2.1, hS2⟩ (by first | omega | (simp only; omega))
  · have dk1 : decide ((i : Int) < ((x.picks.take (min x.picks.length 500)).length : Int)) = false := decide_eq_false (by omega)
    have hval : playD x = (playTo (worldNew x.todo) (x.picks.take i)) := by
      unfold playD; congr 1; rw [List.take_eq_take_iff]; omega
    repeat' (first | simp -implicitDefEqProofs only [go_sem] | (simp -implicitDefEqProofs only [hB, bm2, br2, q2, t2, c1, c2, if_false, List.drop_zero, Nat.le_refl, dk1]) | (with_reducible refine And.intro l2 ?_) | (rw [wr_all _ _ (by rw [q2]; rfl)]) | fail)
    rw [hval]
    exact retK_one ⟨hs.set hw (Nat.le_succ _) _, S, _, rfl, Own.eq ho (fun b hb => blk_set_ne _ (by have := (hS b hb).1; omega) _), hn, fun x hx => by have := (hS x hx).1; omega⟩
end Go.Proofs.YtipfnhfcoolhaaaGreat.Aw
end
section
namespace Go.Proofs.YtipfnhfcoolhaaaGreat.Aw
open Go Go.RowKit
set_option maxRecDepth 100000
set_option maxHeartbeats 4000000
attribute [-go_sem] wr_eq
theorem Play_spec (W0 : World) (cs : List AV) (x : ScriptD) (H : AH) (hx : Ob.rep W0 H cs x) : ACalls Tryz.prog W0 18 [.agg cs] H (fun u H' => NewV H H' u (playD x)) := by
  refine acallw Tryz.func18 rfl (by kernel_rfl) (by kernel_rfl) fun hc hw => ?_
  have hx0 := hx
  obtain ⟨xt, xp, rfl, f1, f2⟩ := hx0
  have c1 := f1.one; have c2 := f2.one
  have p1 := f1.leaf; have p2 := f2.leaf
  have hpb := f2.2.1; simp only [big] at hpb
  repeat' (first | simp -implicitDefEqProofs only [go_sem])
  refine ACallK.of (WorldNew_spec _ xt x.todo _ (f1.sub (by repeat (first | exact Sub.refl _ | assumption | refine Sub.new (by assumption) ?_ _ _ | refine Sub.kill_new (by assumption) ?_ _ _ | refine Sub.trans ?_ (by assumption))))).cl ?_
  rintro _ H1 ⟨⟨s1, S1, d1, rfl, o1, F1⟩, k1⟩
  have z1 : Sub H H1 := Sub.trans (by repeat (first | exact Sub.refl _ | assumption | refine Sub.new (by assumption) ?_ _ _ | refine Sub.kill_new (by assumption) ?_ _ _ | refine Sub.trans ?_ (by assumption))) s1
  have n1 := s1.1; simp only [go_sem] at n1
  have hF1 := F1.2; simp only [go_sem] at hF1
  have q1 : d1.length = 6 := Ob.len (Own.rep (W0 := W0) o1)
  have l1 : d1.all leafA = true := Ob.leaf (Own.rep (W0 := W0) o1)
  have t1 : d1.take 6 = d1 := List.take_of_length_le (by omega)
  have bm := s1.2 H.nxt _ (by simp only [go_sem]; rfl)
  have br := s1.2 (H.nxt + 1) _ (by simp only [go_sem]; rfl)
  have e0 : ¬ H.nxt = H1.nxt := by omega
  have e1 : ¬ H.nxt + 1 = H1.nxt := by omega
  obtain ⟨vc, vj, vt, vl, rfl, ⟨lc, cc⟩, ⟨lj, cj⟩, ⟨lt, ct⟩, ⟨ll, cl⟩, hsl⟩ := world_leaf o1
  obtain ⟨hjs, -⟩ := hsl (W0 := W0)
  simp only [wcs] at *
  by_cases hv : todoOk x.todo = true
  · have hjl : (worldNew x.todo).jobs.length = 4 := by unfold worldNew; rw [if_pos hv]; rfl
    have dj : decide ((((worldNew x.todo).jobs.length : Nat) : Int) = 0) = false := decide_eq_false (by omega)
    repeat' (first | simp -implicitDefEqProofs only [go_sem] | (simp -implicitDefEqProofs only [bm, br, e0, e1, lc, cc, lj, cj, lt, ct, ll, cl, dj, if_false, List.drop_zero, Nat.le_refl, wr_succ, wr_zero, wr_none, Bool.and_self]) | (refine abi_len_sl' hjs ?_))
    generalize hd1 : ([vc, vj, vt, vl, AV.v (Value.int IntKind.i64 (worldNew x.todo).serial), AV.v (Value.int IntKind.i64 (worldNew x.todo).now)] : List AV) = d1 at *
    have bm0 : (H1.new d1 6).blk H.nxt = some ⟨[xt, xp], 2⟩ := (by simp only [go_sem, e0, if_false]; exact bm)
    have br0 : (H1.new d1 6).blk (H.nxt + 1) = some ⟨_, 6⟩ := (by simp only [go_sem, e1, if_false]; exact br)
    obtain ⟨G, hG⟩ : ∃ X, X = H1.new d1 6 := ⟨_, rfl⟩
    rw [← hG] at bm0 br0 ⊢
    have wG : G.wf := by rw [hG]; exact k1.1.new _ _
    have zG : Sub H G := by rw [hG]; exact z1.trans ((Sub.refl _).new k1.1 _ _)
    have bG : G.blk H1.nxt = some ⟨d1, 6⟩ := by rw [hG]; exact blk_new_self _ _ _
    have oG : Own.own G S1 d1 (worldNew x.todo) := by rw [hG]; exact Own.sub o1 ((Sub.refl _).new k1.1 _ _)
    have nG : G.nxt = H1.nxt + 1 := by rw [hG]; rfl
    have hS1 : ∀ y ∈ S1, H.nxt + 2 ≤ y ∧ y ≠ H1.nxt := fun y hy => ⟨hF1 y hy, by have := k1.1.lt' (Own.isin o1 y hy); omega⟩
    clear hG
    refine acode_while (fun i : Nat => [(1, .ptr H.nxt 0), (2, .ptr (H.nxt + 1) 0), (3, .ptr H1.nxt 0), (4, .v (.int .i64 i))]) (fun i H' => (i ≤ x.picks.length ∧ i ≤ 500) ∧ H'.wf ∧ G.nxt ≤ H'.nxt ∧ (∀ x B, x < H.nxt + 2 → G.blk x = some B → H'.blk x = some B) ∧ Kept (worldNew x.todo) (playTo (worldNew x.todo) (x.picks.take i)) i ∧ ∃ ds S, H'.blk H1.nxt = some ⟨ds, 6⟩ ∧ Own.own H' S ds (playTo (worldNew x.todo) (x.picks.take i)) ∧ S.Nodup ∧ ∀ x ∈ S, H.nxt + 2 ≤ x ∧ x ≠ H1.nxt) (fun i => 500 - i) 0 ⟨⟨Nat.zero_le _, Nat.zero_le _⟩, wG, Nat.le_refl _, fun _ _ _ h => h, Kept.start (worldNew_ok hv) (worldNew_lb _), d1, S1, bG, oG, F1.1, hS1⟩ ?_
    rintro i H' ⟨⟨hi, hi5⟩, hw', hn', hk', hkp, ds, S, hB, ho, hn, hS⟩
    have bm2 := hk' _ _ (by omega) bm0
    have br2 := hk' _ _ (by omega) br0
    have hs : Sub H H' := ⟨by have := zG.1; omega, fun y B hX => hk' y B (by have := hw.lt hX; omega) (zG.2 _ _ hX)⟩
    have q2 : ds.length = 6 := Ob.len (Own.rep (W0 := W0) ho)
    have l2 : ds.all leafA = true := Ob.leaf (Own.rep (W0 := W0) ho)
    have t2 : ds.take 6 = ds := List.take_of_length_le (by omega)
    have hlB := hw'.lt hB
    by_cases hlt : i < x.picks.length ∧ i < 500
    · have dk1 : decide ((i : Int) < (x.picks.length : Int)) = true := decide_eq_true (by omega)
      have dk2 : decide ((i : Int) < 500) = true := decide_eq_true (by omega)
      have htk : x.picks.take (i + 1) = x.picks.take i ++ [x.picks.getD i 0] := by rw [List.take_succ_eq_append_getElem hlt.1, List.getD_eq_getElem?_getD, List.getElem?_eq_getElem hlt.1]; rfl
      have hnext : playTo (worldNew x.todo) (x.picks.take (i + 1)) = stepS (playTo (worldNew x.todo) (x.picks.take i)) (x.picks.getD i 0) := by rw [htk, playTo_snoc]
      by_cases hr : 0 ≤ x.picks.getD i 0 ∧ x.picks.getD i 0 ≤ 3
      · have dr : decide (0 ≤ x.picks.getD i 0 ∧ x.picks.getD i 0 ≤ 3) = true := decide_eq_true hr
        repeat' (first | simp -implicitDefEqProofs only [go_sem] | (simp -implicitDefEqProofs only [hB, bm2, br2, q2, t2, c1, c2, if_false, List.drop_zero, Nat.le_refl, dk1, dk2, dr]) | (refine abi_len_sl' f2 ?_) | (refine ixI f2 ?_) | (refine rdI f2 ?_) | (refine ACallK.eq (l1In_ok _ _ _ _ _) ?_; rw [dr]) | ((with_reducible refine adraw_seq ?_ ?_ ?_); (· kernel_rfl); (· decide +kernel)))
        generalize hpk : x.picks.getD i 0 = pk at *
        obtain ⟨n, rfl⟩ : ∃ n : Nat, pk = n := ⟨pk.toNat, by omega⟩
        have hst : stepS (playTo (worldNew x.todo) (x.picks.take i)) (n : Int) = stepD (playTo (worldNew x.todo) (x.picks.take i)) n := by unfold stepS; rw [if_pos ⟨hkp.ok, hr⟩]; rfl
        rw [hst] at hnext
        refine ACallK.of (l11Do_ok _ ds (playTo (worldNew x.todo) (x.picks.take i)) n S _ ho hn hkp.ok (by omega) (by have := hkp.lb.1; omega)).cl ?_
        rintro _ H2 ⟨⟨d2, S2, rfl, o2, g2⟩, k2⟩
        have bx2 := g2.2.1 H1.nxt _ (fun hm => (hS _ hm).2 rfl) hB
        have q3 : d2.length = 6 := Ob.len (Own.rep (W0 := W0) o2)
        have l3 : d2.all leafA = true := Ob.leaf (Own.rep (W0 := W0) o2)
        have hwr2 : wr ds 0 d2 = d2 := wr_all _ _ (by rw [q2, q3])
        repeat' (first | simp -implicitDefEqProofs only [go_sem] | (simp -implicitDefEqProofs only [bx2, hwr2, if_false, List.drop_zero, Nat.le_refl]) | (with_reducible refine And.intro q3 ?_) | (with_reducible refine And.intro l3 ?_) | simp -implicitDefEqProofs (disch := omega) only [wrap_in, u8_small, Int.tmod_eq_emod_of_nonneg, Int.tdiv_eq_ediv_of_nonneg] | (with_reducible refine And.intro (by omega) ?_) | fail)
        have hS2 : ∀ x ∈ S2, H.nxt + 2 ≤ x ∧ x ≠ H1.nxt := fun x hx => (g2.2.2.1 x hx).elim (hS x) (fun h => by omega)
        have hk2 : ∀ x B, x < H.nxt + 2 → G.blk x = some B → (H2.set H1.nxt ⟨d2, 6⟩).blk x = some B := fun x B h1 h2 => by
          rw [blk_set_ne _ (by omega)]; exact g2.2.1 x B (fun hm => by have := (hS x hm).1; omega) (hk' x B h1 h2)
        have hkS : Kept (worldNew x.todo) (playTo (worldNew x.todo) (x.picks.take (i + 1))) (i + 1) := by rw [hnext]; exact hkp.step (by omega)
        exact back (i + 1) ⟨by omega, k2.1.set (k2.1.lt bx2) _, by have := g2.1; first | omega | (simp only [nxt_set]; omega), by first | exact hk2 | (intro x B h1 h2; have h3 := hk2 x B h1 h2; simpa only [go_sem] using h3), hkS, d2, S2, (by first | exact blk_set_self _ _ _ | rfl | simp only [if_true]), (by rw [hnext]; exact Own.eq o2 (fun y hy => blk_set_ne _ (hS2 y hy).2 _)), g2.2.2.2, hS2⟩ (by first | omega | (simp only; omega))
      · have dr : decide (0 ≤ x.picks.getD i 0 ∧ x.picks.getD i 0 ≤ 3) = false := decide_eq_false hr
        have hst : stepS (playTo (worldNew x.todo) (x.picks.take i)) (x.picks.getD i 0) = (playTo (worldNew x.todo) (x.picks.take i)) := by unfold stepS; rw [if_neg (fun k => hr k.2)]
        rw [hst] at hnext
        repeat' (first | simp -implicitDefEqProofs only [go_sem] | (simp -implicitDefEqProofs only [hB, bm2, br2, q2, t2, c1, c2, if_false, List.drop_zero, Nat.le_refl, dk1, dk2, dr]) | (refine abi_len_sl' f2 ?_) | (refine ixI f2 ?_) | (refine rdI f2 ?_) | (refine ACallK.eq (l1In_ok _ _ _ _ _) ?_; rw [dr]) | simp -implicitDefEqProofs (disch := omega) only [wrap_in, u8_small, Int.tmod_eq_emod_of_nonneg, Int.tdiv_eq_ediv_of_nonneg])
        have hkS : Kept (worldNew x.todo) (playTo (worldNew x.todo) (x.picks.take (i + 1))) (i + 1) := by rw [hnext]; exact ⟨hkp.ok, hkp.lb.le (by omega), by have := hkp.cnt; omega⟩
        exact back (i + 1) ⟨by omega, hw', hn', hk', hkS, ds, S, (by first | exact hB | rfl), (by rw [hnext]; exact ho), hn, hS⟩ (by omega)
    · have hval : playD x = (playTo (worldNew x.todo) (x.picks.take i)) := by
        unfold playD; congr 1; rw [List.take_eq_take_iff]; omega
      repeat' (first | simp -implicitDefEqProofs only [go_sem] | (simp -implicitDefEqProofs only [hB, bm2, br2, q2, t2, c1, c2, if_false, List.drop_zero, Nat.le_refl]) | (refine abi_len_sl' f2 ?_) | refine acond_decF (by omega) ?_ | refine agrd_dec (fun _ => ?_) (fun _ => ?_))
      all_goals first | (exfalso; omega) | skip
      all_goals (
        refine ACallK.of (l10Copy_ok _ ds (playTo (worldNew x.todo) (x.picks.take i)) _ (Own.rep ho) (hkp.wb (by omega))).cl ?_
        rintro _ H3 ⟨⟨s3, S3, d3, rfl, o3, F3⟩, k3⟩
        have br3 := s3.2 _ _ br2
        have q3 : d3.length = 6 := Ob.len (Own.rep (W0 := W0) o3)
        have l3 : d3.all leafA = true := Ob.leaf (Own.rep (W0 := W0) o3)
        have t3 : d3.take 6 = d3 := List.take_of_length_le (by omega)
        repeat' (first | simp -implicitDefEqProofs only [go_sem] | (simp -implicitDefEqProofs only [br3, q3, t3, blk_set_self, if_false, List.drop_zero, Nat.le_refl]) | (with_reducible refine And.intro l3 ?_) | (rw [wr_all _ _ (by rw [q3]; rfl)]) | fail)
        rw [hval]
        exact retK_one ⟨(hs.trans s3).set hw (Nat.le_succ _) _, S3, _, rfl, Own.eq o3 (fun b hb => blk_set_ne _ (by have := F3.2 b hb; omega) _), F3.le hs.1⟩)
  · have hjl : (worldNew x.todo).jobs.length = 0 := by unfold worldNew; rw [if_neg hv]; rfl
    have dj : decide ((((worldNew x.todo).jobs.length : Nat) : Int) = 0) = true := decide_eq_true (by omega)
    have hval : playD x = worldNew x.todo := by unfold playD; exact worldNew_okS hv _
    repeat' (first | simp -implicitDefEqProofs only [go_sem] | (simp -implicitDefEqProofs only [bm, br, e0, e1, lc, cc, lj, cj, lt, ct, ll, cl, dj, blk_set_self, if_true, if_false, List.drop_zero, Nat.le_refl, wr_succ, wr_zero, wr_none, Bool.and_self]) | (refine abi_len_sl' hjs ?_))
    rw [hval]
    exact retK_one ⟨(z1.trans ((Sub.refl _).new k1.1 _ _)).set hw (Nat.le_succ _) _, S1, _, rfl, Own.eq (Own.sub o1 ((Sub.refl _).new k1.1 [vc, vj, vt, vl, AV.v (Value.int IntKind.i64 (worldNew x.todo).serial), AV.v (Value.int IntKind.i64 (worldNew x.todo).now)] 6)) (fun b hb => blk_set_ne _ (by have := hF1 b hb; omega) _), F1.le (by simp only [go_sem]; omega)⟩
end Go.Proofs.YtipfnhfcoolhaaaGreat.Aw
end
section
namespace Go.Proofs.YtipfnhfcoolhaaaGreat.Aw
open Go Go.RowKit
set_option maxRecDepth 100000
set_option maxHeartbeats 2000000
attribute [-go_sem] wr_eq
theorem szScript_ok (W0 : World) (cs : List AV) (x : ScriptD) (left : Int) (H : AH) (hx : Ob.rep W0 H cs x) (h0 : 0 ≤ left) (h1 : left ≤ 1048576) : ACalls Tryz.prog W0 17 [.agg cs, .v (.int .i64 left)] H (fun v H' => v = .v (.int .i64 (szLeft left (Ob.sz x))) ∧ H' = H) := by
  obtain ⟨v_todo, v_picks, rfl, f0, f1⟩ := hx
  rw [show Ob.sz x = Ob.sz x.todo + Ob.sz x.picks from rfl]
  refine acallw Tryz.func17 rfl (by kernel_rfl) (by kernel_rfl) fun hc hw => ?_
  repeat' (first | simp -implicitDefEqProofs only [go_sem] | (refine ACallK.szk (szQueueS_ok _ _ x.todo _ _ (SlR.sub' f0) (by omega) (by omega)) (fun _ => ?_) (fun _ => ?_)) | (refine ACallK.szk (szIntS_ok _ _ x.picks _ _ (SlR.sub' f1) (by omega) (by omega)) (fun _ => ?_) (fun _ => ?_)) | refine acond_decF (by omega) ?_ | refine retK_back (by assumption) ?_ | fail)
  all_goals (refine iv ?_; unfold szLeft; first | (rw [if_neg (by omega)]; done) | (rw [if_pos (by omega)]; done) | (rw [if_pos (by omega)]; omega))
theorem eqScript_ok (W0 : World) (cs ds : List AV) (x y : ScriptD) (H : AH) (hx : Ob.rep W0 H cs x) (hy : Ob.rep W0 H ds y) : ACalls Tryz.prog W0 22 [.agg cs, .agg ds] H (fun v H' => v = .v (.bool (decide (x = y))) ∧ H' = H) := by
  obtain ⟨v_todo, v_picks, rfl, f0, f1⟩ := hx
  obtain ⟨v_todo', v_picks', rfl, f0', f1'⟩ := hy
  refine acallw Tryz.func22 rfl (by kernel_rfl) (by kernel_rfl) fun hc hw => ?_
  repeat' (first | simp -implicitDefEqProofs only [go_sem] | refine acond_ndec (fun _ => ?_) (fun _ => ?_) | refine ACallK.eq (eqQueueS_ok _ _ _ x.todo y.todo _ (SlR.sub' f0) (SlR.sub' f0')) ?_ | refine ACallK.eq (eqIntS_ok _ _ _ x.picks y.picks _ (SlR.sub' f1) (SlR.sub' f1')) ?_ | refine retK_back (by assumption) ?_ | fail)
  all_goals first | (rw [decide_eq_false (fun h => by subst h; exact absurd rfl (by assumption))]; done) | (rw [decide_eq_false (fun h => by subst h; exact ne_of_nbeq (by assumption))]; done) | (rw [decide_eq_true (ScriptD.ext_iff'.2 (by (repeat' (with_reducible refine And.intro ?_ ?_)) <;> first | assumption | exact eq_of_nbeq (by assumption)))]; done)
theorem toScript_new (W0 : World) (cs : List AV) (x : ScriptD) (H : AH) (hx : Ob.rep W0 H cs x) (hz : Ob.sz x ≤ 1048576) : ACalls Tryz.prog W0 19 [.agg cs] H (fun v H' => NewV H H' v x) := by
  have hz2 : Ob.sz x.todo + Ob.sz x.picks ≤ 1048576 := hz
  obtain ⟨v_todo, v_picks, rfl, f0, f1⟩ := hx
  refine acallw Tryz.func19 rfl (by kernel_rfl) (by kernel_rfl) fun hc hw => ?_
  repeat' (first | simp -implicitDefEqProofs only [go_sem])
  refine ACallK.of (toQueueS_new W0 v_todo x.todo _ (f0.sub (by repeat (first | exact Sub.refl _ | assumption | refine Sub.new hc.1 ?_ _ _ | refine Sub.set hc.1 ?_ (by omega) _ | refine Sub.trans ?_ (by assumption)))) (by first | omega | (rw [obsz_int] at hz2; omega))).cl ?_
  rintro u1 H1 ⟨⟨s1, S1, w1, F1⟩, c1⟩
  have q1 : ∀ b ∈ S1, b < H1.nxt := fun b hb => c1.1.lt' (w1.isin b hb)
  have n1 := s1.1; simp only [go_sem] at n1
  have a1 := s1.2 H.nxt _ (by simp only [go_sem]; rfl)
  have o1 := s1.2 (H.nxt + 1) _ (by simp only [go_sem]; rfl)
  have l1 := s1.2 (H.nxt + 2) _ (by simp only [go_sem]; rfl)
  repeat' (first | simp -implicitDefEqProofs only [go_sem] | (simp -implicitDefEqProofs only [a1, o1, l1, w1.one, w1.leaf, set_set, wr_succ, wr_zero, wr_none, go_sem]))
  refine ACallK.of (toIntS_new W0 v_picks x.picks _ (f1.sub (by repeat (first | exact Sub.refl _ | assumption | refine Sub.new hc.1 ?_ _ _ | refine Sub.set hc.1 ?_ (by omega) _ | refine Sub.trans ?_ (by assumption)))) (by first | omega | (rw [obsz_int] at hz2; omega))).cl ?_
  rintro u2 H2 ⟨⟨s2, S2, w2, F2⟩, c2⟩
  have q2 : ∀ b ∈ S2, b < H2.nxt := fun b hb => c2.1.lt' (w2.isin b hb)
  have n2 := s2.1; simp only [go_sem] at n2
  have a2 := s2.2 H.nxt _ (by simp only [go_sem, a1]; rfl)
  have o2 := s2.2 (H.nxt + 1) _ (by simp only [go_sem, o1]; rfl)
  have l2 := s2.2 (H.nxt + 2) _ (by simp only [go_sem]; rfl)
  have w1 := w1.step (l := H.nxt + 2) (fun b hb => by have := F1.2 b hb; simp only [go_sem] at this; omega) s2
  repeat' (first | simp -implicitDefEqProofs only [go_sem] | (simp -implicitDefEqProofs only [a2, o2, l2, w1.one, w1.leaf, w2.one, w2.leaf, set_set, wr_succ, wr_zero, wr_none, go_sem]))
  refine retK_one ?_
  refine ⟨by repeat (first | exact Sub.refl _ | assumption | refine Sub.new hc.1 ?_ _ _ | refine Sub.set hc.1 ?_ (by omega) _ | refine Sub.trans ?_ (by assumption)), _, _, rfl, ⟨u1, u2, S1, S2, rfl, rfl, w1.chg2 (fun b hb => by have := F1.2 b hb; simp only [go_sem] at this; omega), w2.chg2 (fun b hb => by have := F2.2 b hb; simp only [go_sem] at this; omega)⟩, ?_⟩
  exact ((F1.le (Nat.le_refl _)).append (F2.le (Nat.le_refl _)) (fun b hb => Nat.lt_of_lt_of_le (q1 b hb) (by simp only [go_sem] <;> omega)) (by simp only [go_sem] <;> omega)).le (by simp only [go_sem]; omega)
end Go.Proofs.YtipfnhfcoolhaaaGreat.Aw
end
section
namespace Go.Proofs.YtipfnhfcoolhaaaGreat.Aw
open Go Go.RowKit
set_option maxRecDepth 100000
set_option maxHeartbeats 2000000
attribute [-go_sem] wr_eq
theorem markScript_ok (W0 : World) (cs : List AV) (x : ScriptD) (k : Int) (S : List Nat) (H : AH) (ho : Own.own H S cs x) (hn : S.Nodup) (h0 : 0 < k) (h1 : k + Mk.cnt x ≤ 4611686018427387904) :
    ACalls Tryz.prog W0 23 [.agg cs, .v (.int .i64 k)] H (fun u H' => u = .v (.int .i64 (k + Mk.cnt x)) ∧ Upd S H H' S ∧ Own.own H' S cs (Mk.put x k)) := by
  obtain ⟨v_todo, v_picks, S_todo, S_picks, rfl, rfl, f0, f1⟩ := ho
  have hk : Mk.cnt x = cntL x.todo + cntL x.picks := rfl
  refine acallw Tryz.func23 rfl (by kernel_rfl) (by kernel_rfl) fun hc hw => ?_
  obtain ⟨n0, m0, d0, e0⟩ := nd_two hn
  repeat' (first | simp -implicitDefEqProofs only [go_sem])
  refine ACallK.of (markQueueS_ok _ v_todo x.todo _ S_todo _ (f0.sub (by repeat (first | exact Sub.refl _ | assumption | refine Sub.new (by assumption) ?_ _ _ | refine Sub.kill_new (by assumption) ?_ _ _ | refine Sub.trans ?_ (by assumption)))) n0 (by omega) (by omega)) ?_
  rintro _ G0 ⟨rfl, g0, w0⟩
  have a0 := (g0.2 H.nxt (fun hm => absurd (hw.lt' (f0.isin _ hm)) (Nat.lt_irrefl _))).trans (blk_new_self _ _ _)
  repeat' (first | simp -implicitDefEqProofs only [go_sem] | (simp only [a0]))
  refine ACallK.of (markIntS_ok _ v_picks x.picks _ S_picks _ ((f1.sub (by repeat (first | exact Sub.refl _ | assumption | refine Sub.new (by assumption) ?_ _ _ | refine Sub.kill_new (by assumption) ?_ _ _ | refine Sub.trans ?_ (by assumption)))).chg g0 (fun x hx => e0 x (hx))) m0 (by omega) (by omega)) ?_
  rintro _ G1 ⟨rfl, g1, w1⟩
  repeat' (first | simp -implicitDefEqProofs only [go_sem])
  refine retK_one ⟨iv (by omega), (((g0.sub (fun x hx => List.mem_append_left _ hx)).trans (g1.sub (fun x hx => List.mem_append_right _ (hx)))).upd hn).start (by repeat (first | exact Sub.refl _ | assumption | refine Sub.new (by assumption) ?_ _ _ | refine Sub.kill_new (by assumption) ?_ _ _ | refine Sub.trans ?_ (by assumption))), ?_⟩
  refine ⟨v_todo, v_picks, S_todo, S_picks, rfl, rfl, by simpa only [Mk.put, Int.add_assoc, Int.natCast_add] using (w0).chg g1 (fun x hx hm => d0 x hx (hm)), by simpa only [Mk.put, Int.add_assoc, Int.natCast_add] using w1⟩
end Go.Proofs.YtipfnhfcoolhaaaGreat.Aw
end
