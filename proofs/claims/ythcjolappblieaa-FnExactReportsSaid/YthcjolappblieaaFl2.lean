/- What is told: the reference; its law's bounds. -/
import Derived.Test.YthcjolappblieaaFl1
namespace Go.Proofs.Ythcjolappblieaa.Aw
open Go Go.RowKit
set_option linter.unusedVariables false
set_option linter.unusedSimpArgs false
set_option maxRecDepth 100000
set_option maxHeartbeats 2000000
attribute [-go_sem] wr_eq
section
variable {P : Program} {W0 : World}
/-- One element behind a list whose elements lie in memory that stays; the list's own block is none of that memory's. -/
theorem app_repK {α : Type} [Ob α] {K : Kt} {H0 H : AH} {b m bn : Nat} {cs c : List AV} {xs : List α} {x : α} {g : Bool} {s by' : Nat} {z : List Value} (hs : Sub H0 H) (hw0 : H0.wf) (hw : H.wf) (hb : H0.blk b = none) (hBb : H.blk b = some ⟨cs, s⟩) (hm : m = xs.length) (hr : Reps W0 H0 cs xs) (hc : Ob.rep W0 H0 c x)
    (hB : H.blk bn = some ⟨c, s⟩) (k : ∀ H', H'.wf → Sub H0 H' → H'.blk H.nxt = some ⟨cs ++ c, s⟩ → Reps W0 H0 (cs ++ c) (xs ++ [x]) → H.nxt < H'.nxt → H0.nxt ≤ H.nxt → K.k (.sl H.nxt 0 (m + 1)) H')
    (h3 : (m + 1) * by' ≤ 140737488355328 := by omega) (hz : s = Ob.n α := by rfl) (g1 : 0 < s := by decide) (g2 : 0 < by' := by decide) (g3 : z.length = s := by rfl) : aapp (K := K) P W0 H (some ⟨g, s, by', z⟩) (.sl b 0 m) (.sl bn 0 1) := by
  subst hz hm
  have hcl : c.length = Ob.n α := Ob.len hc
  have hlf : c.all leafA = true := Ob.leaf hc
  have hcells := slCells_one (W0 := W0) hB hcl
  have hl := hr.len
  rw [aapp_own, hcells, hBb, aapp2_some]
  refine ⟨g1, g2, g3, hlf, rfl, by omega, h3, ?_⟩
  rw [List.drop_zero, List.take_of_length_le (by omega)]
  refine k _ ((hw.kill b).new _ _) ⟨Nat.le_succ_of_le hs.1, fun y B hy => ?_⟩ (blk_new_self (H.kill b) _ _) (hr.append (by have := Reps.cons hc (.nil (W0 := W0) (H := H0)); rwa [List.append_nil] at this)) (Nat.lt_succ_self _) hs.1
  have h1 := hw0.lt hy
  have h2 := hs.1
  rw [blk_new, if_neg (show ¬ y = (H.kill b).nxt from by rw [nxt_kill]; omega), blk_kill, if_neg (by rintro rfl; rw [hb] at hy; cases hy)]
  exact hs.2 y B hy
theorem slr_spine {α : Type} [Ob α] {H0 H : AH} {b m : Nat} {cs : List AV} {xs : List α} (hs : Sub H0 H) (hB : H.blk b = some ⟨cs, Ob.n α⟩) (hr : Reps W0 H0 cs xs) (hm : m = xs.length) (hb : xs.length ≤ big) : SlR W0 H (.sl b 0 m) xs := by
  subst hm
  have hl := hr.len
  refine ⟨rfl, hb, cs, ?_, hr.sub hs⟩
  simp only [slCells, Nat.le_refl, if_true, hB, Option.bind_some, true_and, Nat.zero_add, List.drop_zero]
  rw [if_pos (by omega), List.take_of_length_le (by omega)]
end
theorem above_wf {H : AH} (h : H.wf) (n : Nat) : (H.above n).wf := fun b hb => by
  simp only [AH.above] at hb ⊢
  split
  · rfl
  · exact h b hb
theorem Tells_specA (W0 : World) (cs : List AV) (w : WorldD) (H : AH) (hx : Ob.rep W0 H cs w) (hl : w.log.length ≤ 10000000) (hr : ∀ e ∈ w.log, e.rows.length ≤ 1000000000) : ACalls Try.prog W0 53 [.agg cs] H (fun v H' => Sub H H' ∧ SlR W0 (H'.above H.nxt) v (tellsD w)) := by
  refine acallw Try.func53 rfl (by kernel_rfl) (by kernel_rfl) fun hc hw => ?_
  obtain ⟨v1, v2, v3, v4, rfl, f1, f2, f3, f4, f5, f6⟩ := hx
  repeat' (first | simp -implicitDefEqProofs only [go_sem] | refine acond_decF (by omega) ?_ | refine acond_decT (by omega) ?_ | refine acond_ndecF (by omega) ?_ | refine acond_ndecT (by omega) ?_ | refine acond_dec (fun _ => ?_) (fun _ => ?_) | refine acond_ndec (fun _ => ?_) (fun _ => ?_) | refine agrd_dec (fun _ => ?_) (fun _ => ?_) | refine agrd_decf (fun _ => ?_) (fun _ => ?_) | refine agrd_ndec (fun _ => ?_) (fun _ => ?_) | refine agrd_ndecf (fun _ => ?_) (fun _ => ?_) | refine abi_len_sl' (by assumption) ?_ | refine aixs_sln (by assumption) ?_ | refine afa_sl (by assumption) ?_ | (refine aK_sl (by assumption) (by omega) ?_; first | rintro _ ⟨rfl, _⟩ | (intro _ hx; obtain ⟨_, rfl, _, _⟩ := EvD.out hx) | (intro _ hx; obtain ⟨_, _, rfl, _, _, _⟩ := JobD.out hx) | rintro _ ⟨_, rfl, _⟩) | rw [SlR.one (by assumption)] | rw [SlR.leaf (by assumption)] | simp -implicitDefEqProofs (disch := omega) only [wrap_in, u8_small, Int.tmod_eq_emod_of_nonneg, Int.tdiv_eq_ediv_of_nonneg] | refine aK_sub (by assumption) ?_ | refine aix_strn (fun _ _ => ?_) | ((with_reducible refine adraw_seq ?_ ?_ ?_); (· kernel_rfl); (· decide +kernel)) | simp -implicitDefEqProofs only [go_sem, slCells_own, aapp_own] | (with_reducible refine And.intro (by omega) ?_) | refine And.intro (by omega) (And.intro (by omega) ?_) | refine acond_split (fun _ => ?_) (fun _ => ?_) | refine agrd_bt (fun _ => ?_) (fun _ => ?_) | refine agrd_bf (fun _ => ?_) (fun _ => ?_) | refine retK_eq ?_ | refine retK_back (by assumption) ?_ | refine retK_eq2 ?_ | refine retK_back2 (by assumption) ?_ | (with_reducible refine And.intro ?_ ?_))
  refine ACallK.of (l10Log_ok _ v4 w.log _ (f4.sub ((Sub.new hw (Sub.refl _) _ _).trans ((Sub.refl _).new (hw.new _ _) _ _))) hl hr).cl ?_
  rintro u H1 ⟨⟨s1, S1, o1, F1⟩, c1⟩
  have hF : ∀ b ∈ S1, H.nxt + 2 ≤ b := fun b hb => F1.2 b hb
  have n1 := s1.1; simp only [go_sem] at n1
  have hK : Sub H (H1.kill (H.nxt + 1)) := Sub.kill hw ((Sub.new hw (Sub.refl _) _ _).trans (((Sub.refl _).new (hw.new _ _) _ _).trans s1)) (Nat.le_succ _)
  have b1 := s1.2 (H.nxt + 1) _ (by simp only [go_sem]; rfl)
  have wK : (H1.kill (H.nxt + 1)).wf := c1.1.kill _
  have sK : Sub ((H1.kill (H.nxt + 1)).above H.nxt) (H1.kill (H.nxt + 1)) := above_all _ _
  have oK : OwnS ((H1.kill (H.nxt + 1)).above H.nxt) S1 u w.log := o1.eq fun b hb => by have := hF b hb; rw [above_blk (by omega), blk_kill, if_neg (by omega)]
  have rK := oK.slr (W0 := W0)
  generalize hKb : H1.kill (H.nxt + 1) = Kb at *
  generalize hK0 : Kb.above H.nxt = K0 at *
  repeat' (first | simp -implicitDefEqProofs only [go_sem] | refine acond_decF (by omega) ?_ | refine acond_decT (by omega) ?_ | refine acond_ndecF (by omega) ?_ | refine acond_ndecT (by omega) ?_ | refine acond_dec (fun _ => ?_) (fun _ => ?_) | refine acond_ndec (fun _ => ?_) (fun _ => ?_) | refine agrd_dec (fun _ => ?_) (fun _ => ?_) | refine agrd_decf (fun _ => ?_) (fun _ => ?_) | refine agrd_ndec (fun _ => ?_) (fun _ => ?_) | refine agrd_ndecf (fun _ => ?_) (fun _ => ?_) | refine abi_len_sl' (by assumption) ?_ | refine aixs_sln (by assumption) ?_ | refine afa_sl (by assumption) ?_ | (refine aK_sl (by assumption) (by omega) ?_; first | rintro _ ⟨rfl, _⟩ | (intro _ hx; obtain ⟨_, rfl, _, _⟩ := EvD.out hx) | (intro _ hx; obtain ⟨_, _, rfl, _, _, _⟩ := JobD.out hx) | rintro _ ⟨_, rfl, _⟩) | rw [SlR.one (by assumption)] | rw [SlR.leaf (by assumption)] | simp -implicitDefEqProofs (disch := omega) only [wrap_in, u8_small, Int.tmod_eq_emod_of_nonneg, Int.tdiv_eq_ediv_of_nonneg] | refine aK_sub (by assumption) ?_ | refine aix_strn (fun _ _ => ?_) | ((with_reducible refine adraw_seq ?_ ?_ ?_); (· kernel_rfl); (· decide +kernel)) | simp -implicitDefEqProofs only [go_sem, slCells_own, aapp_own] | (with_reducible refine And.intro (by omega) ?_) | refine And.intro (by omega) (And.intro (by omega) ?_) | refine acond_split (fun _ => ?_) (fun _ => ?_) | refine agrd_bt (fun _ => ?_) (fun _ => ?_) | refine agrd_bf (fun _ => ?_) (fun _ => ?_) | refine retK_eq ?_ | refine retK_back (by assumption) ?_ | refine retK_eq2 ?_ | refine retK_back2 (by assumption) ?_ | (with_reducible refine And.intro ?_ ?_))
  refine acode_while (fun (p : Nat × Nat) => [(3, .sl p.2 0 ((w.log.take p.1).filter fun e => decide (e.kind = 3)).length), (4, u), (5, .v (.int .i64 p.1))]) (fun p H' => H'.wf ∧ Sub Kb H' ∧ p.1 ≤ w.log.length ∧ Kb.blk p.2 = none ∧ H.nxt ≤ p.2 ∧ ∃ ds, H'.blk p.2 = some ⟨ds, 13⟩ ∧ Reps W0 K0 ds ((w.log.take p.1).filter fun e => decide (e.kind = 3))) (fun p => w.log.length - p.1) (0, H.nxt + 1) ?_ ?_
  · refine ⟨c1.1, ⟨by rw [← hKb]; exact Nat.le_refl _, fun b B hB => ?_⟩, by simp only; omega, by rw [← hKb]; simp only [blk_kill, if_true], Nat.le_succ _, [], by simpa using b1, by simpa using Reps.nil⟩
    rw [← hKb, blk_kill] at hB
    split at hB
    · cases hB
    · exact hB
  rintro ⟨i, b⟩ H' ⟨hw', hs, hi, hbn, hbh, ds, hB, hR⟩
  simp only at hi hbn hB hR hbh ⊢
  rcases Nat.lt_or_ge i w.log.length with hlt2 | hge
  · have hlen : ((w.log.take i).filter fun e => decide (e.kind = 3)).length ≤ 10000000 := Nat.le_trans (List.length_filter_le _ _) (by simp; omega)
    have hstep := filter_step (fun e : EvD => decide (e.kind = 3)) hlt2
    repeat' (first | simp -implicitDefEqProofs only [go_sem] | (refine aixs_sln rK ?_) | (refine aK_slw rK hlt2 ?_; intro cs hcs; have hcs2 := hcs; have hcl := Ob.len hcs; obtain ⟨vr, rfl, q0, q1, q2, q3, q4, q5, q6, q7, q8, q9, q10, q11, q12⟩ := hcs2) | (refine app_repK (x := w.log[i]) (by first | exact (hs.trans ((Sub.refl _).new hw' _ _))) wK (hw'.new _ _) hbn (by simp only [go_sem]; rw [if_neg (by have := hw'.lt hB; omega)]; exact hB) rfl (hR.sub sK) (Ob.sub sK hcs) (by simp only [go_sem]) ?_; intro H3 w3 s3 b3 r3 l3 l4) | refine acond_decF (by omega) ?_ | refine acond_decT (by omega) ?_ | refine acond_ndecF (by omega) ?_ | refine acond_ndecT (by omega) ?_ | refine acond_dec (fun _ => ?_) (fun _ => ?_) | refine acond_ndec (fun _ => ?_) (fun _ => ?_) | refine agrd_dec (fun _ => ?_) (fun _ => ?_) | refine agrd_decf (fun _ => ?_) (fun _ => ?_) | refine agrd_ndec (fun _ => ?_) (fun _ => ?_) | refine agrd_ndecf (fun _ => ?_) (fun _ => ?_) | refine abi_len_sl' (by assumption) ?_ | refine aixs_sln (by assumption) ?_ | refine afa_sl (by assumption) ?_ | (refine aK_sl (by assumption) (by omega) ?_; first | rintro _ ⟨rfl, _⟩ | (intro _ hx; obtain ⟨_, rfl, _, _⟩ := EvD.out hx) | (intro _ hx; obtain ⟨_, _, rfl, _, _, _⟩ := JobD.out hx) | rintro _ ⟨_, rfl, _⟩) | rw [SlR.one (by assumption)] | rw [SlR.leaf (by assumption)] | simp -implicitDefEqProofs (disch := omega) only [wrap_in, u8_small, Int.tmod_eq_emod_of_nonneg, Int.tdiv_eq_ediv_of_nonneg] | refine aK_sub (by assumption) ?_ | refine aix_strn (fun _ _ => ?_) | ((with_reducible refine adraw_seq ?_ ?_ ?_); (· kernel_rfl); (· decide +kernel)) | simp -implicitDefEqProofs only [go_sem, slCells_own, aapp_own] | (with_reducible refine And.intro (by omega) ?_) | refine And.intro (by omega) (And.intro (by omega) ?_) | refine acond_split (fun _ => ?_) (fun _ => ?_) | refine agrd_bt (fun _ => ?_) (fun _ => ?_) | refine agrd_bf (fun _ => ?_) (fun _ => ?_) | refine retK_eq ?_ | refine retK_back (by assumption) ?_ | refine retK_eq2 ?_ | refine retK_back2 (by assumption) ?_ | (with_reducible refine And.intro ?_ ?_))
    · rw [if_pos (decide_eq_true (by assumption))] at hstep
      have hR3 := hR.append (Reps.cons (by assumption : Ob.rep W0 K0 _ w.log[i]) .nil)
      rw [List.append_nil] at hR3
      have hnx : H.nxt ≤ H'.nxt + 1 := by have := hK.1; have := hs.1; omega
      refine back (i + 1, H'.nxt + 1) ⟨w3, s3, by simp only; omega, wK _ (by simp only [go_sem] at l4 ⊢; exact l4), hnx, _, by simpa only [go_sem] using b3, by simp only [hstep]; exact hR3⟩ (by simp only; omega) (by simp only [frOk, go_sem, hstep]; simp)
    · rw [if_neg (by simpa using (by assumption : ¬ w.log[i].kind = 3)), List.append_nil] at hstep
      exact back (i + 1, b) ⟨hw', hs, by simp only; omega, hbn, hbh, ds, hB, by simp only [hstep]; exact hR⟩ (by simp only; omega) (by simp only [frOk, go_sem, hstep]; simp)
  · obtain rfl : i = w.log.length := by omega
    rw [List.take_length] at hR
    have hlen := List.length_filter_le (fun e : EvD => decide (e.kind = 3)) w.log
    repeat' (first | simp -implicitDefEqProofs only [go_sem] | refine acond_decF (by omega) ?_ | refine acond_decT (by omega) ?_ | refine acond_ndecF (by omega) ?_ | refine acond_ndecT (by omega) ?_ | refine acond_dec (fun _ => ?_) (fun _ => ?_) | refine acond_ndec (fun _ => ?_) (fun _ => ?_) | refine agrd_dec (fun _ => ?_) (fun _ => ?_) | refine agrd_decf (fun _ => ?_) (fun _ => ?_) | refine agrd_ndec (fun _ => ?_) (fun _ => ?_) | refine agrd_ndecf (fun _ => ?_) (fun _ => ?_) | refine abi_len_sl' (by assumption) ?_ | refine aixs_sln (by assumption) ?_ | refine afa_sl (by assumption) ?_ | (refine aK_sl (by assumption) (by omega) ?_; first | rintro _ ⟨rfl, _⟩ | (intro _ hx; obtain ⟨_, rfl, _, _⟩ := EvD.out hx) | (intro _ hx; obtain ⟨_, _, rfl, _, _, _⟩ := JobD.out hx) | rintro _ ⟨_, rfl, _⟩) | rw [SlR.one (by assumption)] | rw [SlR.leaf (by assumption)] | simp -implicitDefEqProofs (disch := omega) only [wrap_in, u8_small, Int.tmod_eq_emod_of_nonneg, Int.tdiv_eq_ediv_of_nonneg] | refine aK_sub (by assumption) ?_ | refine aix_strn (fun _ _ => ?_) | ((with_reducible refine adraw_seq ?_ ?_ ?_); (· kernel_rfl); (· decide +kernel)) | simp -implicitDefEqProofs only [go_sem, slCells_own, aapp_own] | (with_reducible refine And.intro (by omega) ?_) | refine And.intro (by omega) (And.intro (by omega) ?_) | refine acond_split (fun _ => ?_) (fun _ => ?_) | refine agrd_bt (fun _ => ?_) (fun _ => ?_) | refine agrd_bf (fun _ => ?_) (fun _ => ?_) | refine retK_eq ?_ | refine retK_back (by assumption) ?_ | refine retK_eq2 ?_ | refine retK_back2 (by assumption) ?_ | (with_reducible refine And.intro ?_ ?_))
    rw [List.take_length]
    exact retK_one ⟨hK.trans hs, slr_spine (H0 := K0) (by rw [← hK0]; exact above_sub hs _) (by rw [above_blk hbh]; exact hB) hR rfl (Nat.le_trans hlen (by simp only [big]; omega))⟩
theorem Tells_spec (W0 : World) (cs : List AV) (w : WorldD) (H : AH) (hx : Ob.rep W0 H cs w) (hl : w.log.length ≤ 10000000) (hr : ∀ e ∈ w.log, e.rows.length ≤ 1000000000) : ACalls Try.prog W0 53 [.agg cs] H (fun v H' => Sub H H' ∧ SlR W0 H' v (tellsD w)) :=
  (Tells_specA W0 cs w H hx hl hr).mono fun v H' ⟨h1, h2⟩ => ⟨h1, h2.sub (above_all _ _)⟩
theorem take_n {l : List AV} {n : Nat} (h : l.length = n) : l.take n = l := List.take_of_length_le (by omega)
theorem sz_len {α : Type} [Ob α] (l : List α) : l.length ≤ Ob.sz l := by show l.length ≤ l.length + _; omega
theorem sz_mem {α : Type} [Ob α] {l : List α} {x : α} (h : x ∈ l) : Ob.sz x ≤ Ob.sz l := by
  have := mem_le_sum _ _ (List.mem_map_of_mem (f := Ob.sz) h)
  show Ob.sz x ≤ l.length + (l.map Ob.sz).sum
  omega
theorem sz_log {w : WorldD} (h : Ob.sz w ≤ 1048576) : w.log.length ≤ 10000000 ∧ ∀ e ∈ w.log, e.rows.length ≤ 1000000000 := by
  have h1 : Ob.sz w = Ob.sz w.cells + Ob.sz w.jobs + Ob.sz w.todo + Ob.sz w.log := rfl
  have h2 := sz_len w.log
  refine ⟨by omega, fun e he => ?_⟩
  have h3 := sz_mem he
  have h4 : Ob.sz e = Ob.sz e.op + Ob.sz e.rows := rfl
  have h5 := sz_len e.rows
  omega
theorem cntL_filter {α : Type} [Mk α] (p : α → Bool) (l : List α) : cntL (l.filter p) ≤ cntL l := by
  induction l with
  | nil => simp
  | cons x l ih =>
    rw [List.filter_cons]
    split
    · rw [cntL_cons, cntL_cons]; omega
    · rw [cntL_cons]; omega
theorem cnt_tells {w : WorldD} (h : Ob.sz w ≤ 1048576) : cntL (tellsD w) ≤ 100000000 := by
  have h1 : Ob.sz w = Ob.sz w.cells + Ob.sz w.jobs + Ob.sz w.todo + Ob.sz w.log := rfl
  have h2 : cntL (tellsD w) ≤ cntL w.log := cntL_filter _ _
  have h3 := cntL_le w.log
  omega
end Go.Proofs.Ythcjolappblieaa.Aw
