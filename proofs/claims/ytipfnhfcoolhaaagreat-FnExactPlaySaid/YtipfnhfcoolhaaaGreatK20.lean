/- Parts of a proof: HWorld QInt QJob QOp QQueue QRow QEv QWorld. -/
import Derived.Test.YtipfnhfcoolhaaaGreatK19
import Derived.Test.YtipfnhfcoolhaaaGreatK02
import Derived.Test.YtipfnhfcoolhaaaGreatK04
set_option linter.unusedVariables false
set_option linter.unusedSimpArgs false
section
namespace Go.Proofs.YtipfnhfcoolhaaaGreat.Aw
open Go Go.RowKit
set_option maxRecDepth 100000
set_option maxHeartbeats 2000000
attribute [-go_sem] wr_eq
theorem szWorld_ok (W0 : World) (cs : List AV) (x : WorldD) (left : Int) (H : AH) (hx : Ob.rep W0 H cs x) (h0 : 0 ≤ left) (h1 : left ≤ 1048576) : ACalls Tryz.prog W0 26 [.agg cs, .v (.int .i64 left)] H (fun v H' => v = .v (.int .i64 (szLeft left (Ob.sz x))) ∧ H' = H) := by
  obtain ⟨v_cells, v_jobs, v_todo, v_log, rfl, f0, f1, f2, f3, f4, f5⟩ := hx
  rw [show Ob.sz x = Ob.sz x.cells + Ob.sz x.jobs + Ob.sz x.todo + Ob.sz x.log from rfl]
  refine acallw Tryz.func26 rfl (by kernel_rfl) (by kernel_rfl) fun hc hw => ?_
  repeat' (first | simp -implicitDefEqProofs only [go_sem] | (refine ACallK.szk (szIntS_ok _ _ x.cells _ _ (SlR.sub' f0) (by omega) (by omega)) (fun _ => ?_) (fun _ => ?_)) | (refine ACallK.szk (szJobS_ok _ _ x.jobs _ _ (SlR.sub' f1) (by omega) (by omega)) (fun _ => ?_) (fun _ => ?_)) | (refine ACallK.szk (szQueueS_ok _ _ x.todo _ _ (SlR.sub' f2) (by omega) (by omega)) (fun _ => ?_) (fun _ => ?_)) | (refine ACallK.szk (szEvS_ok _ _ x.log _ _ (SlR.sub' f3) (by omega) (by omega)) (fun _ => ?_) (fun _ => ?_)) | refine acond_decF (by omega) ?_ | refine retK_back (by assumption) ?_ | fail)
  all_goals (refine iv ?_; unfold szLeft; first | (rw [if_neg (by omega)]; done) | (rw [if_pos (by omega)]; done) | (rw [if_pos (by omega)]; omega))
theorem eqWorld_ok (W0 : World) (cs ds : List AV) (x y : WorldD) (H : AH) (hx : Ob.rep W0 H cs x) (hy : Ob.rep W0 H ds y) : ACalls Tryz.prog W0 21 [.agg cs, .agg ds] H (fun v H' => v = .v (.bool (decide (x = y))) ∧ H' = H) := by
  obtain ⟨v_cells, v_jobs, v_todo, v_log, rfl, f0, f1, f2, f3, f4, f5⟩ := hx
  obtain ⟨v_cells', v_jobs', v_todo', v_log', rfl, f0', f1', f2', f3', f4', f5'⟩ := hy
  refine acallw Tryz.func21 rfl (by kernel_rfl) (by kernel_rfl) fun hc hw => ?_
  repeat' (first | simp -implicitDefEqProofs only [go_sem] | refine acond_ndec (fun _ => ?_) (fun _ => ?_) | refine ACallK.eq (eqIntS_ok _ _ _ x.cells y.cells _ (SlR.sub' f0) (SlR.sub' f0')) ?_ | refine ACallK.eq (eqJobS_ok _ _ _ x.jobs y.jobs _ (SlR.sub' f1) (SlR.sub' f1')) ?_ | refine ACallK.eq (eqQueueS_ok _ _ _ x.todo y.todo _ (SlR.sub' f2) (SlR.sub' f2')) ?_ | refine ACallK.eq (eqEvS_ok _ _ _ x.log y.log _ (SlR.sub' f3) (SlR.sub' f3')) ?_ | refine retK_back (by assumption) ?_ | fail)
  all_goals first | (rw [decide_eq_false (fun h => by subst h; exact absurd rfl (by assumption))]; done) | (rw [decide_eq_false (fun h => by subst h; exact ne_of_nbeq (by assumption))]; done) | (rw [decide_eq_true (WorldD.ext_iff'.2 (by (repeat' (with_reducible refine And.intro ?_ ?_)) <;> first | assumption | exact eq_of_nbeq (by assumption)))]; done)
theorem toWorld_new (W0 : World) (cs : List AV) (x : WorldD) (H : AH) (hx : Ob.rep W0 H cs x) (hz : Ob.sz x ≤ 1048576) : ACalls Tryz.prog W0 28 [.agg cs] H (fun v H' => NewV H H' v x) := by
  have hz2 : Ob.sz x.cells + Ob.sz x.jobs + Ob.sz x.todo + Ob.sz x.log ≤ 1048576 := hz
  obtain ⟨v_cells, v_jobs, v_todo, v_log, rfl, f0, f1, f2, f3, f4, f5⟩ := hx
  refine acallw Tryz.func28 rfl (by kernel_rfl) (by kernel_rfl) fun hc hw => ?_
  repeat' (first | simp -implicitDefEqProofs only [go_sem])
  refine ACallK.of (toIntS_new W0 v_cells x.cells _ (f0.sub (by repeat (first | exact Sub.refl _ | assumption | refine Sub.new hc.1 ?_ _ _ | refine Sub.set hc.1 ?_ (by omega) _ | refine Sub.trans ?_ (by assumption)))) (by first | omega | (rw [obsz_int] at hz2; omega))).cl ?_
  rintro u1 H1 ⟨⟨s1, S1, w1, F1⟩, c1⟩
  have q1 : ∀ b ∈ S1, b < H1.nxt := fun b hb => c1.1.lt' (w1.isin b hb)
  have n1 := s1.1; simp only [go_sem] at n1
  have a1 := s1.2 H.nxt _ (by simp only [go_sem]; rfl)
  have o1 := s1.2 (H.nxt + 1) _ (by simp only [go_sem]; rfl)
  have l1 := s1.2 (H.nxt + 2) _ (by simp only [go_sem]; rfl)
  repeat' (first | simp -implicitDefEqProofs only [go_sem] | (simp -implicitDefEqProofs only [a1, o1, l1, w1.one, w1.leaf, set_set, wr_succ, wr_zero, wr_none, go_sem]))
  refine ACallK.of (toJobS_new W0 v_jobs x.jobs _ (f1.sub (by repeat (first | exact Sub.refl _ | assumption | refine Sub.new hc.1 ?_ _ _ | refine Sub.set hc.1 ?_ (by omega) _ | refine Sub.trans ?_ (by assumption)))) (by first | omega | (rw [obsz_int] at hz2; omega))).cl ?_
  rintro u2 H2 ⟨⟨s2, S2, w2, F2⟩, c2⟩
  have q2 : ∀ b ∈ S2, b < H2.nxt := fun b hb => c2.1.lt' (w2.isin b hb)
  have n2 := s2.1; simp only [go_sem] at n2
  have a2 := s2.2 H.nxt _ (by simp only [go_sem, a1]; rfl)
  have o2 := s2.2 (H.nxt + 1) _ (by simp only [go_sem, o1]; rfl)
  have l2 := s2.2 (H.nxt + 2) _ (by simp only [go_sem]; rfl)
  have w1 := w1.step (l := H.nxt + 2) (fun b hb => by have := F1.2 b hb; simp only [go_sem] at this; omega) s2
  repeat' (first | simp -implicitDefEqProofs only [go_sem] | (simp -implicitDefEqProofs only [a2, o2, l2, w1.one, w1.leaf, w2.one, w2.leaf, set_set, wr_succ, wr_zero, wr_none, go_sem]))
  refine ACallK.of (toQueueS_new W0 v_todo x.todo _ (f2.sub (by repeat (first | exact Sub.refl _ | assumption | refine Sub.new hc.1 ?_ _ _ | refine Sub.set hc.1 ?_ (by omega) _ | refine Sub.trans ?_ (by assumption)))) (by first | omega | (rw [obsz_int] at hz2; omega))).cl ?_
  rintro u3 H3 ⟨⟨s3, S3, w3, F3⟩, c3⟩
  have q3 : ∀ b ∈ S3, b < H3.nxt := fun b hb => c3.1.lt' (w3.isin b hb)
  have n3 := s3.1; simp only [go_sem] at n3
  have a3 := s3.2 H.nxt _ (by simp only [go_sem, a2]; rfl)
  have o3 := s3.2 (H.nxt + 1) _ (by simp only [go_sem, o2]; rfl)
  have l3 := s3.2 (H.nxt + 2) _ (by simp only [go_sem]; rfl)
  have w1 := w1.step (l := H.nxt + 2) (fun b hb => by have := F1.2 b hb; simp only [go_sem] at this; omega) s3
  have w2 := w2.step (l := H.nxt + 2) (fun b hb => by have := F2.2 b hb; simp only [go_sem] at this; omega) s3
  repeat' (first | simp -implicitDefEqProofs only [go_sem] | (simp -implicitDefEqProofs only [a3, o3, l3, w1.one, w1.leaf, w2.one, w2.leaf, w3.one, w3.leaf, set_set, wr_succ, wr_zero, wr_none, go_sem]))
  refine ACallK.of (toEvS_new W0 v_log x.log _ (f3.sub (by repeat (first | exact Sub.refl _ | assumption | refine Sub.new hc.1 ?_ _ _ | refine Sub.set hc.1 ?_ (by omega) _ | refine Sub.trans ?_ (by assumption)))) (by first | omega | (rw [obsz_int] at hz2; omega))).cl ?_
  rintro u4 H4 ⟨⟨s4, S4, w4, F4⟩, c4⟩
  have q4 : ∀ b ∈ S4, b < H4.nxt := fun b hb => c4.1.lt' (w4.isin b hb)
  have n4 := s4.1; simp only [go_sem] at n4
  have a4 := s4.2 H.nxt _ (by simp only [go_sem, a3]; rfl)
  have o4 := s4.2 (H.nxt + 1) _ (by simp only [go_sem, o3]; rfl)
  have l4 := s4.2 (H.nxt + 2) _ (by simp only [go_sem]; rfl)
  have w1 := w1.step (l := H.nxt + 2) (fun b hb => by have := F1.2 b hb; simp only [go_sem] at this; omega) s4
  have w2 := w2.step (l := H.nxt + 2) (fun b hb => by have := F2.2 b hb; simp only [go_sem] at this; omega) s4
  have w3 := w3.step (l := H.nxt + 2) (fun b hb => by have := F3.2 b hb; simp only [go_sem] at this; omega) s4
  repeat' (first | simp -implicitDefEqProofs only [go_sem] | (simp -implicitDefEqProofs only [a4, o4, l4, w1.one, w1.leaf, w2.one, w2.leaf, w3.one, w3.leaf, w4.one, w4.leaf, set_set, wr_succ, wr_zero, wr_none, go_sem]))
  refine retK_one ?_
  refine ⟨by repeat (first | exact Sub.refl _ | assumption | refine Sub.new hc.1 ?_ _ _ | refine Sub.set hc.1 ?_ (by omega) _ | refine Sub.trans ?_ (by assumption)), _, _, rfl, ⟨u1, u2, u3, u4, S1, S2, S3, S4, rfl, rfl, w1.chg2 (fun b hb => by have := F1.2 b hb; simp only [go_sem] at this; omega), w2.chg2 (fun b hb => by have := F2.2 b hb; simp only [go_sem] at this; omega), w3.chg2 (fun b hb => by have := F3.2 b hb; simp only [go_sem] at this; omega), w4.chg2 (fun b hb => by have := F4.2 b hb; simp only [go_sem] at this; omega), f4, f5⟩, ?_⟩
  exact ((F1.le (Nat.le_refl _)).append ((F2.le (Nat.le_refl _)).append ((F3.le (Nat.le_refl _)).append (F4.le (Nat.le_refl _)) (fun b hb => Nat.lt_of_lt_of_le (q3 b hb) (by simp only [go_sem] <;> omega)) (by simp only [go_sem] <;> omega)) (fun b hb => Nat.lt_of_lt_of_le (q2 b hb) (by simp only [go_sem] <;> omega)) (by simp only [go_sem] <;> omega)) (fun b hb => Nat.lt_of_lt_of_le (q1 b hb) (by simp only [go_sem] <;> omega)) (by simp only [go_sem] <;> omega)).le (by simp only [go_sem]; omega)
end Go.Proofs.YtipfnhfcoolhaaaGreat.Aw
end
section
namespace Go.Proofs.YtipfnhfcoolhaaaGreat.Aw
open Go Go.RowKit
set_option maxRecDepth 100000
set_option maxHeartbeats 2000000
attribute [-go_sem] wr_eq
theorem markText_ok (W0 : World) (k : Int) (H : AH) (hk64 : k ≤ 9223372036854775807) : ACalls Tryz.prog W0 140 [.v (.int .i64 k)] H (fun v H' => v = .v (.string (mtext k)) ∧ H' = H) := by
  refine acallw Tryz.func140 rfl (by kernel_rfl) (by kernel_rfl) fun hc hw => ?_
  have hk : k < 100000000000000000000 := by omega
  repeat' (first | simp -implicitDefEqProofs only [go_sem] | refine acond_dec (fun _ => ?_) (fun _ => ?_) | refine retK_eq ?_)
  · rw [mtext, if_pos (by assumption)]
  · refine acode_while (fun s : Nat × Int × ByteArray => [(0, .v (.int .i64 s.2.1)), (3, .v (.string s.2.2))]) (fun s H' => Sub H H' ∧ mdig s.1 s.2.1 s.2.2 = mdig 20 k ⟨#[]⟩ ∧ s.2.1 < 10 ^ s.1 ∧ 0 ≤ s.2.1 ∧ s.2.1 ≤ k ∧ s.2.2.size + s.1 = 20) (fun s => s.2.1.toNat) (20, k, ⟨#[]⟩) ⟨Sub.refl _, rfl, by simpa using hk, by simp; omega, by simp, rfl⟩ ?_
    rintro ⟨f, j, out⟩ H' ⟨hs, hm, h1, h2, h3, h4⟩
    simp only at hm h1 h2 h3 h4 ⊢
    repeat' (first | simp -implicitDefEqProofs only [go_sem] | refine acond_dec (fun _ => ?_) (fun _ => ?_) | simp -implicitDefEqProofs (disch := omega) only [wrap_in, u8_small, Int.tmod_eq_emod_of_nonneg, Int.tdiv_eq_ediv_of_nonneg] | simp -implicitDefEqProofs only [go_sem, slCells_own, aapp_own])
    · refine aK_to _ (if_pos (by rw [strOfNums_size]; simp; omega)) ?_
      have hw1 : IntKind.i64.wrap (j / 10) = j / 10 := by
        by_cases hj : j ≤ 9223372036854775807
        · exact wrap_in _ (by omega) (by omega)
        · exact absurd hj (by have := hk64; omega)
      repeat' (first | simp -implicitDefEqProofs only [go_sem] | simp -implicitDefEqProofs (disch := omega) only [wrap_in, u8_small, Int.tmod_eq_emod_of_nonneg, Int.tdiv_eq_ediv_of_nonneg])
      cases f with
      | zero => simp at h1; omega
      | succ f =>
        refine back (f, j / 10, strOfNums [48 + j % 10] ++ out) ⟨by repeat (first | exact Sub.refl _ | assumption | refine Sub.new (by assumption) ?_ _ _ | refine Sub.kill_new (by assumption) ?_ _ _ | refine Sub.trans ?_ (by assumption)), ?_, ?_, by simp only; omega, by simp only; omega, ?_⟩ (by simp only; omega)
        · rw [← hm]; simp only [mdig]; rw [if_pos (by assumption)]
        · rw [Int.pow_succ] at h1; simp only; omega
        · simp only; rw [ByteArray.size_append, strOfNums_size]; simp; omega
    · have h0 : j = 0 := by omega
      subst h0
      have hz : out = mdig 20 k ⟨#[]⟩ := by rw [← hm]; cases f <;> simp [mdig]
      refine aK_to _ (if_pos (by have : (#[109] : Array UInt8).size = 1 := rfl; omega)) ?_
      repeat' (first | simp -implicitDefEqProofs only [go_sem] | refine retK_back (by assumption) ?_ | fail)
      rw [mtext, if_neg (by assumption), ← hz]
theorem markIntS_ok (W0 : World) (v : AV) (xs : List Int) (k : Int) (S : List Nat) (H : AH) (ho : OwnS H S v xs) (hn : S.Nodup) (h0 : 0 < k) (h1 : k + cntL xs ≤ 4611686018427387904) :
    ACalls Tryz.prog W0 14 [v, .v (.int .i64 k)] H (fun u H' => u = .v (.int .i64 (k + cntL xs)) ∧ Chg S H H' ∧ OwnS H' S v (putL xs k)) := by
  refine acallw Tryz.func14 rfl (by kernel_rfl) (by kernel_rfl) fun hc hw => ?_
  have ha := ho.slr (W0 := W0)
  have hb := ha.2.1; simp only [big] at hb
  repeat' (first | simp -implicitDefEqProofs only [go_sem])
  refine acode_while (fun i : Nat => [(0, v), (1, .v (.int .i64 (k + cntL (xs.take i)))), (5, .v (.int .i64 i))]) (fun i H' => Chg S H H' ∧ i ≤ xs.length ∧ OwnS H' S v (mkTo xs k i)) (fun i => xs.length - i) 0 ⟨Chg.refl _ _, by omega, by rw [mkTo_zero]; exact ho⟩ ?_ (by simp only [frOk, go_sem]; simp [cntL])
  rintro i H' ⟨hC, hi, hO⟩
  have hl := (hO.slr (W0 := W0)).slLen
  rw [mkTo_length] at hl
  have hc2 := cntL_take_le xs i
  rcases Nat.lt_or_ge i xs.length with hlt | hge
  · obtain ⟨b, o, pre, mid, post, S1, S2, S3, rfl, hB, hp, hm, hS, hown, put⟩ := hO.get i (by rw [mkTo_length]; exact hlt)
    rw [mkTo_get _ _ _ hlt] at hown
    simp only [mkTo_length] at *
    obtain ⟨rfl, rfl, hx⟩ := hown
    simp only [Ob.n, Nat.mul_one, List.cons_append, List.nil_append] at hB hp
    have hc := cntL_take hlt
    have hc2 := cntL_take_le xs (i + 1)
    have hc3 : Mk.cnt xs[i] = 1 := rfl
    have hne := foc_ne hS hn
    have hbS : b ∈ S := by rw [hS]; exact List.mem_cons_self ..
    generalize hkk : k + (cntL (xs.take i) : Int) = kk at *
    repeat' (first | simp -implicitDefEqProofs only [go_sem] | (simp -implicitDefEqProofs (disch := omega) only [hB, blk_set_self, Int.toNat_natCast, wr_pre hp, wr_pre0 hp, wr_succ, wr_zero, wr_none, set_set, List.length_append, List.length_cons]) | refine acond_decT (by omega) ?_ | simp -implicitDefEqProofs (disch := omega) only [wrap_in, u8_small, Int.tmod_eq_emod_of_nonneg, Int.tdiv_eq_ediv_of_nonneg] | (with_reducible refine And.intro (by omega) ?_) | fail)
    refine back (i + 1) ⟨hC.set hbS _, by omega, ?_⟩ (by omega) (by simp only [frOk, go_sem]; exact ⟨iv (by omega), iv (by omega)⟩)
    rw [← mkTo_set xs k i hlt, hkk, hS]
    exact put _ [] [_] _ (blk_set_self _ _ _) (fun x hx => blk_set_ne _ (hne x hx) _) ⟨rfl, rfl, by simp only [inI64, Mk.put]; omega⟩
  · repeat' (first | simp -implicitDefEqProofs only [go_sem] | refine acond_decF (by omega) ?_ | refine abi_len_sl' (by assumption) ?_ | fail)
    rw [List.take_of_length_le hge]
    exact retK_one ⟨rfl, hC, by rw [← mkTo_all xs k hge]; exact hO⟩
theorem heldIntS_ok (W0 : World) (v : AV) (xs : List Int) (k : Int) (H : AH) (ha : SlR W0 H v (putL xs k)) (h0 : 0 < k) (h1 : k + cntL xs ≤ 4611686018427387904) :
    ACalls Tryz.prog W0 75 [v, .v (.int .i64 k)] H (fun u H' => u = .v (.int .i64 (k + cntL xs)) ∧ H' = H) := by
  refine acallw Tryz.func75 rfl (by kernel_rfl) (by kernel_rfl) fun hc hw => ?_
  have hb := ha.2.1; simp only [big, putL_length] at hb
  have hl := ha.slLen
  rw [putL_length] at hl
  have hlen := putL_length xs k
  repeat' (first | simp -implicitDefEqProofs only [go_sem])
  refine acode_while (fun i : Nat => [(0, v), (1, .v (.int .i64 (k + cntL (xs.take i)))), (5, .v (.int .i64 i))]) (fun i H' => H' = H ∧ i ≤ xs.length) (fun i => xs.length - i) 0 ⟨rfl, by omega⟩ ?_ (by simp only [frOk, go_sem]; simp [cntL])
  rintro i _ ⟨rfl, hi⟩
  have hc2 := cntL_take_le xs i
  rcases Nat.lt_or_ge i xs.length with hlt | hge
  · have hc := cntL_take hlt
    have hc2 := cntL_take_le xs (i + 1)
    have hc3 : Mk.cnt xs[i] = 1 := rfl
    have hlp : i < (putL xs k).length := by rw [putL_length]; exact hlt
    have hg : (putL xs k)[i] = (k + (cntL (xs.take i) : Int)) := by
      have := putL_get xs k i hlt
      rw [List.getElem?_eq_getElem hlp] at this
      exact Option.some.inj this
    generalize hkk : k + (cntL (xs.take i) : Int) = kk at *
    repeat' (first | simp -implicitDefEqProofs only [go_sem] | (rw [hg]) | (simp -implicitDefEqProofs (disch := omega) only [wrap_in, Int.tmod_eq_emod_of_nonneg]) | refine acond_decT (by omega) ?_ | refine abi_len_sl' (by assumption) ?_ | refine aixs_sln (by assumption) ?_ | (refine aK_sl (by assumption) (by omega) ?_; first | rintro _ ⟨rfl, _⟩ | (intro _ hx; obtain ⟨_, rfl, _, _⟩ := EvD.out hx) | (intro _ hx; obtain ⟨_, _, rfl, _, _, _⟩ := JobD.out hx) | rintro _ ⟨_, rfl, _⟩) | fail)
    all_goals first | exact back (i + 1) (by omega) (by omega) (by simp only [frOk, go_sem]; exact ⟨iv (by omega), iv (by omega)⟩) | trace_state
  · repeat' (first | simp -implicitDefEqProofs only [go_sem] | refine acond_decF (by omega) ?_ | refine abi_len_sl' (by assumption) ?_ | refine retK_eq ?_)
    rw [List.take_of_length_le hge]
end Go.Proofs.YtipfnhfcoolhaaaGreat.Aw
end
section
namespace Go.Proofs.YtipfnhfcoolhaaaGreat.Aw
open Go Go.RowKit
set_option maxRecDepth 100000
set_option maxHeartbeats 2000000
attribute [-go_sem] wr_eq
theorem markJobS_ok (W0 : World) (v : AV) (xs : List JobD) (k : Int) (S : List Nat) (H : AH) (ho : OwnS H S v xs) (hn : S.Nodup) (h0 : 0 < k) (h1 : k + cntL xs ≤ 4611686018427387904) :
    ACalls Tryz.prog W0 73 [v, .v (.int .i64 k)] H (fun u H' => u = .v (.int .i64 (k + cntL xs)) ∧ Chg S H H' ∧ OwnS H' S v (putL xs k)) := by
  refine acallw Tryz.func73 rfl (by kernel_rfl) (by kernel_rfl) fun hc hw => ?_
  have ha := ho.slr (W0 := W0)
  have hb := ha.2.1; simp only [big] at hb
  repeat' (first | simp -implicitDefEqProofs only [go_sem])
  refine acode_while (fun i : Nat => [(0, v), (1, .v (.int .i64 (k + cntL (xs.take i)))), (5, .v (.int .i64 i))]) (fun i H' => Chg S H H' ∧ i ≤ xs.length ∧ OwnS H' S v (mkTo xs k i)) (fun i => xs.length - i) 0 ⟨Chg.refl _ _, by omega, by rw [mkTo_zero]; exact ho⟩ ?_ (by simp only [frOk, go_sem]; simp [cntL])
  rintro i H' ⟨hC, hi, hO⟩
  have hl := (hO.slr (W0 := W0)).slLen
  rw [mkTo_length] at hl
  have hc2 := cntL_take_le xs i
  rcases Nat.lt_or_ge i xs.length with hlt | hge
  · obtain ⟨b, o, pre, mid, post, S1, S2, S3, rfl, hB, hp, hm, hS, hown, put⟩ := hO.get i (by rw [mkTo_length]; exact hlt)
    rw [mkTo_get _ _ _ hlt] at hown
    simp only [mkTo_length] at *
    obtain ⟨p1, p2, p3, p4, p5⟩ := foc_parts hS hn
    obtain ⟨v_keys, v_raw, S_keys, S_raw, rfl, rfl, f0, f1, f2, f3, f4, f5, f6, f7, f8, f9, f10, f11, f12, f13, f14, f15, f16⟩ := hown
    simp only [Ob.n, Nat.mul_one, List.cons_append, List.nil_append] at hB hp
    have hc := cntL_take hlt
    have hc2 := cntL_take_le xs (i + 1)
    have hc3 : Mk.cnt xs[i] = 16 + cntL xs[i].keys + cntL xs[i].raw := rfl
    have hne := foc_ne hS hn
    have hbS : b ∈ S := by rw [hS]; exact List.mem_cons_self ..
    generalize hkk : k + (cntL (xs.take i) : Int) = kk at *
    obtain ⟨n1, n2, n3, n4⟩ := nd_two p1
    repeat' (first | simp -implicitDefEqProofs only [go_sem] | (simp -implicitDefEqProofs (disch := omega) only [hB, blk_set_self, Int.toNat_natCast, wr_preA hp, wr_pre0 hp, wr_succ, wr_zero, wr_none, drop_preA hp, drop_pre0 hp, set_set, List.length_append, List.length_cons]) | (rw [if_pos (by omega)]) | refine ACallK.eq (markText_ok _ _ _ (by omega)) ?_ | refine acond_decT (by omega) ?_ | simp -implicitDefEqProofs (disch := omega) only [wrap_in, u8_small, Int.tmod_eq_emod_of_nonneg, Int.tdiv_eq_ediv_of_nonneg] | (with_reducible refine And.intro (by omega) ?_) | fail)
    refine ACallK.of (markIntS_ok _ v_keys xs[i].keys _ S_keys _ (f15.setne (fun x hx => p2 x (List.mem_append_left _ hx))) n1 (by omega) (by omega)) ?_
    rintro _ G0 ⟨rfl, g0, w0⟩
    have hB0 := (g0.2 b (fun hm => p3 (List.mem_append_left _ hm))).trans (blk_set_self _ _ _)
    repeat' (first | simp -implicitDefEqProofs only [go_sem] | (simp -implicitDefEqProofs (disch := omega) only [hB0, blk_set_self, Int.toNat_natCast, wr_preA hp, wr_pre0 hp, wr_succ, wr_zero, wr_none, drop_preA hp, drop_pre0 hp, set_set, List.length_append, List.length_cons]) | (rw [if_pos (by omega)]) | (with_reducible refine And.intro (by omega) ?_) | fail)
    refine ACallK.of (markIntS_ok _ v_raw xs[i].raw _ S_raw _ ((f16.setne (fun x hx => p2 x (List.mem_append_right _ hx))).chg g0 n4) n2 (by omega) (by omega)) ?_
    rintro _ G1 ⟨rfl, g1, w1⟩
    have hB1 := (g1.2 b (fun hm => p3 (List.mem_append_right _ hm))).trans (hB0)
    repeat' (first | simp -implicitDefEqProofs only [go_sem] | simp -implicitDefEqProofs (disch := omega) only [wrap_in, u8_small, Int.tmod_eq_emod_of_nonneg, Int.tdiv_eq_ediv_of_nonneg])
    refine back (i + 1) ⟨?_, by omega, ?_⟩ (by omega) (by simp only [frOk, go_sem]; exact ⟨iv (by omega), iv (by omega)⟩)
    · exact ((hC.set hbS _).trans (g0.sub fun x hx => p5 x (List.mem_append_left _ hx))).trans (g1.sub fun x hx => p5 x (List.mem_append_right _ hx))
    · rw [← mkTo_set xs k i hlt, hkk, hS]
      exact put _ (S_keys ++ S_raw) [_, _, _, _, _, _, _, _, _, _, _, _, _, _, _, _, _, _] _ hB1 (fun x hx => ((g1.2 x (fun hm => p4 x hx (List.mem_append_right _ hm))).trans (g0.2 x (fun hm => p4 x hx (List.mem_append_left _ hm)))).trans (blk_set_ne _ (hne x hx) _)) ⟨v_keys, v_raw, S_keys, S_raw, rfl, rfl, by simp only [inI64, Mk.put]; omega, by have := mtext_size; simp only [big]; exact Nat.le_trans (this _) (by decide), by simp only [inI64, Mk.put]; omega, by simp only [inI64, Mk.put]; omega, by simp only [inI64, Mk.put]; omega, by simp only [inI64, Mk.put]; omega, by simp only [inI64, Mk.put]; omega, by simp only [inI64, Mk.put]; omega, by simp only [inI64, Mk.put]; omega, by simp only [inI64, Mk.put]; omega, by simp only [inI64, Mk.put]; omega, by simp only [inI64, Mk.put]; omega, by simp only [inI64, Mk.put]; omega, by simp only [inI64, Mk.put]; omega, by simp only [inI64, Mk.put]; omega, w0.chg g1 n3, w1⟩
  · repeat' (first | simp -implicitDefEqProofs only [go_sem] | refine acond_decF (by omega) ?_ | refine abi_len_sl' (by assumption) ?_ | fail)
    rw [List.take_of_length_le hge]
    exact retK_one ⟨rfl, hC, by rw [← mkTo_all xs k hge]; exact hO⟩
theorem heldJobS_ok (W0 : World) (v : AV) (xs : List JobD) (k : Int) (H : AH) (ha : SlR W0 H v (putL xs k)) (h0 : 0 < k) (h1 : k + cntL xs ≤ 4611686018427387904) :
    ACalls Tryz.prog W0 76 [v, .v (.int .i64 k)] H (fun u H' => u = .v (.int .i64 (k + cntL xs)) ∧ H' = H) := by
  refine acallw Tryz.func76 rfl (by kernel_rfl) (by kernel_rfl) fun hc hw => ?_
  have hb := ha.2.1; simp only [big, putL_length] at hb
  have hl := ha.slLen
  rw [putL_length] at hl
  have hlen := putL_length xs k
  repeat' (first | simp -implicitDefEqProofs only [go_sem])
  refine acode_while (fun i : Nat => [(0, v), (1, .v (.int .i64 (k + cntL (xs.take i)))), (5, .v (.int .i64 i))]) (fun i H' => H' = H ∧ i ≤ xs.length) (fun i => xs.length - i) 0 ⟨rfl, by omega⟩ ?_ (by simp only [frOk, go_sem]; simp [cntL])
  rintro i _ ⟨rfl, hi⟩
  have hc2 := cntL_take_le xs i
  rcases Nat.lt_or_ge i xs.length with hlt | hge
  · have hc := cntL_take hlt
    have hc2 := cntL_take_le xs (i + 1)
    have hc3 : Mk.cnt xs[i] = 16 + cntL xs[i].keys + cntL xs[i].raw := rfl
    have hlp : i < (putL xs k).length := by rw [putL_length]; exact hlt
    have hg : (putL xs k)[i] = Mk.put xs[i] (k + (cntL (xs.take i) : Int)) := by
      have := putL_get xs k i hlt
      rw [List.getElem?_eq_getElem hlp] at this
      exact Option.some.inj this
    generalize hkk : k + (cntL (xs.take i) : Int) = kk at *
    simp only [Mk.put] at hg
    repeat' (first | simp -implicitDefEqProofs only [go_sem] | (refine aK_sl (by assumption) (by omega) ?_; intro _ hx; rw [hg] at hx; obtain ⟨_, _, rfl, _, _, -⟩ := JobD.out hx) | (simp -implicitDefEqProofs (disch := omega) only [wrap_in, Int.tmod_eq_emod_of_nonneg]) | refine ACallK.eq (markText_ok _ _ _ (by omega)) ?_ | (refine ACallK.eq (heldIntS_ok _ _ xs[i].keys _ _ (SlR.sub' (by assumption)) (by omega) (by omega)) ?_) | (refine ACallK.eq (heldIntS_ok _ _ xs[i].raw _ _ (SlR.sub' (by assumption)) (by omega) (by omega)) ?_) | refine acond_decF (by omega) ?_ | refine acond_decT (by omega) ?_ | refine abi_len_sl' (by assumption) ?_ | refine aixs_sln (by assumption) ?_ | refine afa_sl (by assumption) ?_ | ((with_reducible refine adraw_plan [(0, []), (1, []), (2, []), (3, []), (4, []), (5, []), (6, []), (7, [0, 1, 2, 3, 4, 5]), (8, [])] ?_ ?_ ?_); (· kernel_rfl); (· decide +kernel)) | (with_reducible refine And.intro ?_ ?_))
    all_goals first | exact back (i + 1) (by omega) (by omega) (by simp only [frOk, go_sem]; exact ⟨iv (by omega), iv (by omega)⟩) | trace_state
  · repeat' (first | simp -implicitDefEqProofs only [go_sem] | refine acond_decF (by omega) ?_ | refine abi_len_sl' (by assumption) ?_ | refine retK_eq ?_)
    rw [List.take_of_length_le hge]
end Go.Proofs.YtipfnhfcoolhaaaGreat.Aw
end
section
namespace Go.Proofs.YtipfnhfcoolhaaaGreat.Aw
open Go Go.RowKit
set_option maxRecDepth 100000
set_option maxHeartbeats 2000000
attribute [-go_sem] wr_eq
theorem markOpS_ok (W0 : World) (v : AV) (xs : List OpD) (k : Int) (S : List Nat) (H : AH) (ho : OwnS H S v xs) (hn : S.Nodup) (h0 : 0 < k) (h1 : k + cntL xs ≤ 4611686018427387904) :
    ACalls Tryz.prog W0 158 [v, .v (.int .i64 k)] H (fun u H' => u = .v (.int .i64 (k + cntL xs)) ∧ Chg S H H' ∧ OwnS H' S v (putL xs k)) := by
  refine acallw Tryz.func158 rfl (by kernel_rfl) (by kernel_rfl) fun hc hw => ?_
  have ha := ho.slr (W0 := W0)
  have hb := ha.2.1; simp only [big] at hb
  repeat' (first | simp -implicitDefEqProofs only [go_sem])
  refine acode_while (fun i : Nat => [(0, v), (1, .v (.int .i64 (k + cntL (xs.take i)))), (5, .v (.int .i64 i))]) (fun i H' => Chg S H H' ∧ i ≤ xs.length ∧ OwnS H' S v (mkTo xs k i)) (fun i => xs.length - i) 0 ⟨Chg.refl _ _, by omega, by rw [mkTo_zero]; exact ho⟩ ?_ (by simp only [frOk, go_sem]; simp [cntL])
  rintro i H' ⟨hC, hi, hO⟩
  have hl := (hO.slr (W0 := W0)).slLen
  rw [mkTo_length] at hl
  have hc2 := cntL_take_le xs i
  rcases Nat.lt_or_ge i xs.length with hlt | hge
  · obtain ⟨b, o, pre, mid, post, S1, S2, S3, rfl, hB, hp, hm, hS, hown, put⟩ := hO.get i (by rw [mkTo_length]; exact hlt)
    rw [mkTo_get _ _ _ hlt] at hown
    simp only [mkTo_length] at *
    obtain ⟨rfl, rfl, f0, f1, f2, f3⟩ := hown
    simp only [Ob.n, Nat.mul_one, List.cons_append, List.nil_append] at hB hp
    have hc := cntL_take hlt
    have hc2 := cntL_take_le xs (i + 1)
    have hc3 : Mk.cnt xs[i] = 4 := rfl
    have hne := foc_ne hS hn
    have hbS : b ∈ S := by rw [hS]; exact List.mem_cons_self ..
    generalize hkk : k + (cntL (xs.take i) : Int) = kk at *
    repeat' (first | simp -implicitDefEqProofs only [go_sem] | (simp -implicitDefEqProofs (disch := omega) only [hB, blk_set_self, Int.toNat_natCast, wr_preA hp, wr_pre0 hp, wr_succ, wr_zero, wr_none, set_set, List.length_append, List.length_cons]) | refine ACallK.eq (markText_ok _ _ _ (by omega)) ?_ | refine acond_decT (by omega) ?_ | simp -implicitDefEqProofs (disch := omega) only [wrap_in, u8_small, Int.tmod_eq_emod_of_nonneg, Int.tdiv_eq_ediv_of_nonneg] | (with_reducible refine And.intro (by omega) ?_) | fail)
    refine back (i + 1) ⟨hC.set hbS _, by omega, ?_⟩ (by omega) (by simp only [frOk, go_sem]; exact ⟨iv (by omega), iv (by omega)⟩)
    rw [← mkTo_set xs k i hlt, hkk, hS]
    exact put _ [] [_, _, _, _] _ (blk_set_self _ _ _) (fun x hx => blk_set_ne _ (hne x hx) _) ⟨rfl, rfl, by simp only [inI64, Mk.put]; omega, by have := mtext_size; simp only [big]; exact Nat.le_trans (this _) (by decide), by simp only [inI64, Mk.put]; omega, by simp only [inI64, Mk.put]; omega⟩
  · repeat' (first | simp -implicitDefEqProofs only [go_sem] | refine acond_decF (by omega) ?_ | refine abi_len_sl' (by assumption) ?_ | fail)
    rw [List.take_of_length_le hge]
    exact retK_one ⟨rfl, hC, by rw [← mkTo_all xs k hge]; exact hO⟩
theorem heldOpS_ok (W0 : World) (v : AV) (xs : List OpD) (k : Int) (H : AH) (ha : SlR W0 H v (putL xs k)) (h0 : 0 < k) (h1 : k + cntL xs ≤ 4611686018427387904) :
    ACalls Tryz.prog W0 159 [v, .v (.int .i64 k)] H (fun u H' => u = .v (.int .i64 (k + cntL xs)) ∧ H' = H) := by
  refine acallw Tryz.func159 rfl (by kernel_rfl) (by kernel_rfl) fun hc hw => ?_
  have hb := ha.2.1; simp only [big, putL_length] at hb
  have hl := ha.slLen
  rw [putL_length] at hl
  have hlen := putL_length xs k
  repeat' (first | simp -implicitDefEqProofs only [go_sem])
  refine acode_while (fun i : Nat => [(0, v), (1, .v (.int .i64 (k + cntL (xs.take i)))), (5, .v (.int .i64 i))]) (fun i H' => H' = H ∧ i ≤ xs.length) (fun i => xs.length - i) 0 ⟨rfl, by omega⟩ ?_ (by simp only [frOk, go_sem]; simp [cntL])
  rintro i _ ⟨rfl, hi⟩
  have hc2 := cntL_take_le xs i
  rcases Nat.lt_or_ge i xs.length with hlt | hge
  · have hc := cntL_take hlt
    have hc2 := cntL_take_le xs (i + 1)
    have hc3 : Mk.cnt xs[i] = 4 := rfl
    have hlp : i < (putL xs k).length := by rw [putL_length]; exact hlt
    have hg : (putL xs k)[i] = ⟨k + (cntL (xs.take i) : Int), mtext (k + (cntL (xs.take i) : Int) + 1), k + (cntL (xs.take i) : Int) + 1 + 1, k + (cntL (xs.take i) : Int) + 1 + 1 + 1⟩ := by
      have := putL_get xs k i hlt
      rw [List.getElem?_eq_getElem hlp] at this
      exact Option.some.inj this
    generalize hkk : k + (cntL (xs.take i) : Int) = kk at *
    repeat' (first | simp -implicitDefEqProofs only [go_sem] | (rw [hg]) | (simp -implicitDefEqProofs (disch := omega) only [wrap_in, Int.tmod_eq_emod_of_nonneg]) | refine ACallK.eq (markText_ok _ _ _ (by omega)) ?_ | refine acond_decT (by omega) ?_ | refine abi_len_sl' (by assumption) ?_ | refine aixs_sln (by assumption) ?_ | refine afa_sl (by assumption) ?_ | (refine aK_sl (by assumption) (by omega) ?_; first | rintro _ ⟨rfl, _⟩ | (intro _ hx; obtain ⟨_, rfl, _, _⟩ := EvD.out hx) | (intro _ hx; obtain ⟨_, _, rfl, _, _, _⟩ := JobD.out hx) | rintro _ ⟨_, rfl, _⟩) | ((with_reducible refine adraw_plan [(0, []), (1, []), (2, []), (3, []), (4, []), (5, []), (6, [0, 1, 2, 3, 4]), (7, [])] ?_ ?_ ?_); (· kernel_rfl); (· decide +kernel)) | (with_reducible refine And.intro ?_ ?_))
    all_goals first | exact back (i + 1) (by omega) (by omega) (by simp only [frOk, go_sem]; exact ⟨iv (by omega), iv (by omega)⟩) | trace_state
  · repeat' (first | simp -implicitDefEqProofs only [go_sem] | refine acond_decF (by omega) ?_ | refine abi_len_sl' (by assumption) ?_ | refine retK_eq ?_)
    rw [List.take_of_length_le hge]
end Go.Proofs.YtipfnhfcoolhaaaGreat.Aw
end
section
namespace Go.Proofs.YtipfnhfcoolhaaaGreat.Aw
open Go Go.RowKit
set_option maxRecDepth 100000
set_option maxHeartbeats 2000000
attribute [-go_sem] wr_eq
theorem markQueueS_ok (W0 : World) (v : AV) (xs : List QueueD) (k : Int) (S : List Nat) (H : AH) (ho : OwnS H S v xs) (hn : S.Nodup) (h0 : 0 < k) (h1 : k + cntL xs ≤ 4611686018427387904) :
    ACalls Tryz.prog W0 72 [v, .v (.int .i64 k)] H (fun u H' => u = .v (.int .i64 (k + cntL xs)) ∧ Chg S H H' ∧ OwnS H' S v (putL xs k)) := by
  refine acallw Tryz.func72 rfl (by kernel_rfl) (by kernel_rfl) fun hc hw => ?_
  have ha := ho.slr (W0 := W0)
  have hb := ha.2.1; simp only [big] at hb
  repeat' (first | simp -implicitDefEqProofs only [go_sem])
  refine acode_while (fun i : Nat => [(0, v), (1, .v (.int .i64 (k + cntL (xs.take i)))), (5, .v (.int .i64 i))]) (fun i H' => Chg S H H' ∧ i ≤ xs.length ∧ OwnS H' S v (mkTo xs k i)) (fun i => xs.length - i) 0 ⟨Chg.refl _ _, by omega, by rw [mkTo_zero]; exact ho⟩ ?_ (by simp only [frOk, go_sem]; simp [cntL])
  rintro i H' ⟨hC, hi, hO⟩
  have hl := (hO.slr (W0 := W0)).slLen
  rw [mkTo_length] at hl
  have hc2 := cntL_take_le xs i
  rcases Nat.lt_or_ge i xs.length with hlt | hge
  · obtain ⟨b, o, pre, mid, post, S1, S2, S3, rfl, hB, hp, hm, hS, hown, put⟩ := hO.get i (by rw [mkTo_length]; exact hlt)
    rw [mkTo_get _ _ _ hlt] at hown
    simp only [mkTo_length] at *
    obtain ⟨p1, p2, p3, p4, p5⟩ := foc_parts hS hn
    obtain ⟨v_ops, S_ops, rfl, rfl, f0⟩ := hown
    simp only [Ob.n, Nat.mul_one, List.cons_append, List.nil_append] at hB hp
    have hc := cntL_take hlt
    have hc2 := cntL_take_le xs (i + 1)
    have hc3 : Mk.cnt xs[i] = cntL xs[i].ops := rfl
    have hne := foc_ne hS hn
    have hbS : b ∈ S := by rw [hS]; exact List.mem_cons_self ..
    generalize hkk : k + (cntL (xs.take i) : Int) = kk at *
    repeat' (first | simp -implicitDefEqProofs only [go_sem] | (simp -implicitDefEqProofs (disch := omega) only [hB, blk_set_self, Int.toNat_natCast, wr_preA hp, wr_pre0 hp, wr_succ, wr_zero, wr_none, drop_preA hp, drop_pre0 hp, set_set, List.length_append, List.length_cons]) | (rw [if_pos (by omega)]) | refine acond_decT (by omega) ?_ | (with_reducible refine And.intro (by omega) ?_) | fail)
    refine ACallK.of (markOpS_ok _ v_ops xs[i].ops _ S2 _ (f0) p1 (by omega) (by omega)) ?_
    rintro _ G0 ⟨rfl, g0, w0⟩
    have hB0 := (g0.2 b p3).trans (hB)
    repeat' (first | simp -implicitDefEqProofs only [go_sem] | simp -implicitDefEqProofs (disch := omega) only [wrap_in, u8_small, Int.tmod_eq_emod_of_nonneg, Int.tdiv_eq_ediv_of_nonneg])
    refine back (i + 1) ⟨?_, by omega, ?_⟩ (by omega) (by simp only [frOk, go_sem]; exact ⟨iv (by omega), iv (by omega)⟩)
    · exact (hC).trans (g0.sub fun x hx => p5 x hx)
    · rw [← mkTo_set xs k i hlt, hkk, hS]
      exact put _ (S2) [_] _ hB0 (fun x hx => (g0.2 x (p4 x hx)).trans (rfl)) ⟨v_ops, S2, rfl, rfl, w0⟩
  · repeat' (first | simp -implicitDefEqProofs only [go_sem] | refine acond_decF (by omega) ?_ | refine abi_len_sl' (by assumption) ?_ | fail)
    rw [List.take_of_length_le hge]
    exact retK_one ⟨rfl, hC, by rw [← mkTo_all xs k hge]; exact hO⟩
theorem heldQueueS_ok (W0 : World) (v : AV) (xs : List QueueD) (k : Int) (H : AH) (ha : SlR W0 H v (putL xs k)) (h0 : 0 < k) (h1 : k + cntL xs ≤ 4611686018427387904) :
    ACalls Tryz.prog W0 77 [v, .v (.int .i64 k)] H (fun u H' => u = .v (.int .i64 (k + cntL xs)) ∧ H' = H) := by
  refine acallw Tryz.func77 rfl (by kernel_rfl) (by kernel_rfl) fun hc hw => ?_
  have hb := ha.2.1; simp only [big, putL_length] at hb
  have hl := ha.slLen
  rw [putL_length] at hl
  have hlen := putL_length xs k
  repeat' (first | simp -implicitDefEqProofs only [go_sem])
  refine acode_while (fun i : Nat => [(0, v), (1, .v (.int .i64 (k + cntL (xs.take i)))), (5, .v (.int .i64 i))]) (fun i H' => H' = H ∧ i ≤ xs.length) (fun i => xs.length - i) 0 ⟨rfl, by omega⟩ ?_ (by simp only [frOk, go_sem]; simp [cntL])
  rintro i _ ⟨rfl, hi⟩
  have hc2 := cntL_take_le xs i
  rcases Nat.lt_or_ge i xs.length with hlt | hge
  · have hc := cntL_take hlt
    have hc2 := cntL_take_le xs (i + 1)
    have hc3 : Mk.cnt xs[i] = cntL xs[i].ops := rfl
    have hlp : i < (putL xs k).length := by rw [putL_length]; exact hlt
    have hg : (putL xs k)[i] = Mk.put xs[i] (k + (cntL (xs.take i) : Int)) := by
      have := putL_get xs k i hlt
      rw [List.getElem?_eq_getElem hlp] at this
      exact Option.some.inj this
    generalize hkk : k + (cntL (xs.take i) : Int) = kk at *
    simp only [Mk.put] at hg
    repeat' (first | simp -implicitDefEqProofs only [go_sem] | (refine aK_sl (by assumption) (by omega) ?_; rintro _ hx; rw [hg] at hx; obtain ⟨_, rfl, _⟩ := hx) | (simp -implicitDefEqProofs (disch := omega) only [wrap_in, Int.tmod_eq_emod_of_nonneg]) | (refine ACallK.eq (heldOpS_ok _ _ xs[i].ops _ _ (SlR.sub' (by assumption)) (by omega) (by omega)) ?_) | refine acond_decF (by omega) ?_ | refine acond_decT (by omega) ?_ | refine abi_len_sl' (by assumption) ?_ | refine aixs_sln (by assumption) ?_ | refine afa_sl (by assumption) ?_ | fail)
    all_goals first | exact back (i + 1) (by omega) (by omega) (by simp only [frOk, go_sem]; exact ⟨iv (by omega), iv (by omega)⟩) | trace_state
  · repeat' (first | simp -implicitDefEqProofs only [go_sem] | refine acond_decF (by omega) ?_ | refine abi_len_sl' (by assumption) ?_ | refine retK_eq ?_)
    rw [List.take_of_length_le hge]
end Go.Proofs.YtipfnhfcoolhaaaGreat.Aw
end
section
namespace Go.Proofs.YtipfnhfcoolhaaaGreat.Aw
open Go Go.RowKit
set_option maxRecDepth 100000
set_option maxHeartbeats 2000000
attribute [-go_sem] wr_eq
theorem markRowS_ok (W0 : World) (v : AV) (xs : List RowD) (k : Int) (S : List Nat) (H : AH) (ho : OwnS H S v xs) (hn : S.Nodup) (h0 : 0 < k) (h1 : k + cntL xs ≤ 4611686018427387904) :
    ACalls Tryz.prog W0 58 [v, .v (.int .i64 k)] H (fun u H' => u = .v (.int .i64 (k + cntL xs)) ∧ Chg S H H' ∧ OwnS H' S v (putL xs k)) := by
  refine acallw Tryz.func58 rfl (by kernel_rfl) (by kernel_rfl) fun hc hw => ?_
  have ha := ho.slr (W0 := W0)
  have hb := ha.2.1; simp only [big] at hb
  repeat' (first | simp -implicitDefEqProofs only [go_sem])
  refine acode_while (fun i : Nat => [(0, v), (1, .v (.int .i64 (k + cntL (xs.take i)))), (5, .v (.int .i64 i))]) (fun i H' => Chg S H H' ∧ i ≤ xs.length ∧ OwnS H' S v (mkTo xs k i)) (fun i => xs.length - i) 0 ⟨Chg.refl _ _, by omega, by rw [mkTo_zero]; exact ho⟩ ?_ (by simp only [frOk, go_sem]; simp [cntL])
  rintro i H' ⟨hC, hi, hO⟩
  have hl := (hO.slr (W0 := W0)).slLen
  rw [mkTo_length] at hl
  have hc2 := cntL_take_le xs i
  rcases Nat.lt_or_ge i xs.length with hlt | hge
  · obtain ⟨b, o, pre, mid, post, S1, S2, S3, rfl, hB, hp, hm, hS, hown, put⟩ := hO.get i (by rw [mkTo_length]; exact hlt)
    rw [mkTo_get _ _ _ hlt] at hown
    simp only [mkTo_length] at *
    obtain ⟨rfl, rfl, f0, f1, f2, f3, f4, f5, f6, f7, f8⟩ := hown
    simp only [Ob.n, Nat.mul_one, List.cons_append, List.nil_append] at hB hp
    have hc := cntL_take hlt
    have hc2 := cntL_take_le xs (i + 1)
    have hc3 : Mk.cnt xs[i] = 10 := rfl
    have hne := foc_ne hS hn
    have hbS : b ∈ S := by rw [hS]; exact List.mem_cons_self ..
    generalize hkk : k + (cntL (xs.take i) : Int) = kk at *
    repeat' (first | simp -implicitDefEqProofs only [go_sem] | (simp -implicitDefEqProofs (disch := omega) only [hB, blk_set_self, Int.toNat_natCast, wr_preA hp, wr_pre0 hp, wr_succ, wr_zero, wr_none, set_set, List.length_append, List.length_cons]) | refine ACallK.eq (markText_ok _ _ _ (by omega)) ?_ | refine acond_decT (by omega) ?_ | simp -implicitDefEqProofs (disch := omega) only [wrap_in, u8_small, Int.tmod_eq_emod_of_nonneg, Int.tdiv_eq_ediv_of_nonneg] | (with_reducible refine And.intro (by omega) ?_) | fail)
    refine back (i + 1) ⟨hC.set hbS _, by omega, ?_⟩ (by omega) (by simp only [frOk, go_sem]; exact ⟨iv (by omega), iv (by omega)⟩)
    rw [← mkTo_set xs k i hlt, hkk, hS]
    exact put _ [] [_, _, _, _, _, _, _, _, _, _] _ (blk_set_self _ _ _) (fun x hx => blk_set_ne _ (hne x hx) _) ⟨rfl, rfl, by have := mtext_size; simp only [big]; exact Nat.le_trans (this _) (by decide), by simp only [inI64, Mk.put]; omega, by simp only [inI64, Mk.put]; omega, by simp only [inI64, Mk.put]; omega, by simp only [inI64, Mk.put]; omega, by simp only [inI64, Mk.put]; omega, by simp only [inI64, Mk.put]; omega, by simp only [inI64, Mk.put]; omega, by simp only [inI64, Mk.put]; omega⟩
  · repeat' (first | simp -implicitDefEqProofs only [go_sem] | refine acond_decF (by omega) ?_ | refine abi_len_sl' (by assumption) ?_ | fail)
    rw [List.take_of_length_le hge]
    exact retK_one ⟨rfl, hC, by rw [← mkTo_all xs k hge]; exact hO⟩
theorem heldRowS_ok (W0 : World) (v : AV) (xs : List RowD) (k : Int) (H : AH) (ha : SlR W0 H v (putL xs k)) (h0 : 0 < k) (h1 : k + cntL xs ≤ 4611686018427387904) :
    ACalls Tryz.prog W0 60 [v, .v (.int .i64 k)] H (fun u H' => u = .v (.int .i64 (k + cntL xs)) ∧ H' = H) := by
  refine acallw Tryz.func60 rfl (by kernel_rfl) (by kernel_rfl) fun hc hw => ?_
  have hb := ha.2.1; simp only [big, putL_length] at hb
  have hl := ha.slLen
  rw [putL_length] at hl
  have hlen := putL_length xs k
  repeat' (first | simp -implicitDefEqProofs only [go_sem])
  refine acode_while (fun i : Nat => [(0, v), (1, .v (.int .i64 (k + cntL (xs.take i)))), (5, .v (.int .i64 i))]) (fun i H' => H' = H ∧ i ≤ xs.length) (fun i => xs.length - i) 0 ⟨rfl, by omega⟩ ?_ (by simp only [frOk, go_sem]; simp [cntL])
  rintro i _ ⟨rfl, hi⟩
  have hc2 := cntL_take_le xs i
  rcases Nat.lt_or_ge i xs.length with hlt | hge
  · have hc := cntL_take hlt
    have hc2 := cntL_take_le xs (i + 1)
    have hc3 : Mk.cnt xs[i] = 10 := rfl
    have hlp : i < (putL xs k).length := by rw [putL_length]; exact hlt
    have hg : (putL xs k)[i] = ⟨mtext (k + (cntL (xs.take i) : Int)), k + (cntL (xs.take i) : Int) + 1, k + (cntL (xs.take i) : Int) + 1 + 1, decide ((k + (cntL (xs.take i) : Int) + 1 + 1 + 1) % 3 = 0), k + (cntL (xs.take i) : Int) + 1 + 1 + 1 + 1, k + (cntL (xs.take i) : Int) + 1 + 1 + 1 + 1 + 1, k + (cntL (xs.take i) : Int) + 1 + 1 + 1 + 1 + 1 + 1, k + (cntL (xs.take i) : Int) + 1 + 1 + 1 + 1 + 1 + 1 + 1, k + (cntL (xs.take i) : Int) + 1 + 1 + 1 + 1 + 1 + 1 + 1 + 1, k + (cntL (xs.take i) : Int) + 1 + 1 + 1 + 1 + 1 + 1 + 1 + 1 + 1⟩ := by
      have := putL_get xs k i hlt
      rw [List.getElem?_eq_getElem hlp] at this
      exact Option.some.inj this
    generalize hkk : k + (cntL (xs.take i) : Int) = kk at *
    repeat' (first | simp -implicitDefEqProofs only [go_sem] | (rw [hg]) | (simp -implicitDefEqProofs (disch := omega) only [wrap_in, Int.tmod_eq_emod_of_nonneg]) | refine ACallK.eq (markText_ok _ _ _ (by omega)) ?_ | refine acond_decT (by omega) ?_ | refine abi_len_sl' (by assumption) ?_ | refine aixs_sln (by assumption) ?_ | refine afa_sl (by assumption) ?_ | (refine aK_sl (by assumption) (by omega) ?_; first | rintro _ ⟨rfl, _⟩ | (intro _ hx; obtain ⟨_, rfl, _, _⟩ := EvD.out hx) | (intro _ hx; obtain ⟨_, _, rfl, _, _, _⟩ := JobD.out hx) | rintro _ ⟨_, rfl, _⟩) | ((with_reducible refine adraw_plan [(0, []), (1, []), (2, []), (3, []), (4, []), (5, []), (6, [0, 1, 2, 3, 4]), (7, [])] ?_ ?_ ?_); (· kernel_rfl); (· decide +kernel)) | (with_reducible refine And.intro ?_ ?_))
    all_goals first | exact back (i + 1) (by omega) (by omega) (by simp only [frOk, go_sem]; exact ⟨iv (by omega), iv (by omega)⟩) | trace_state
  · repeat' (first | simp -implicitDefEqProofs only [go_sem] | refine acond_decF (by omega) ?_ | refine abi_len_sl' (by assumption) ?_ | refine retK_eq ?_)
    rw [List.take_of_length_le hge]
end Go.Proofs.YtipfnhfcoolhaaaGreat.Aw
end
section
namespace Go.Proofs.YtipfnhfcoolhaaaGreat.Aw
open Go Go.RowKit
set_option maxRecDepth 100000
set_option maxHeartbeats 2000000
attribute [-go_sem] wr_eq
theorem markEvS_ok (W0 : World) (v : AV) (xs : List EvD) (k : Int) (S : List Nat) (H : AH) (ho : OwnS H S v xs) (hn : S.Nodup) (h0 : 0 < k) (h1 : k + cntL xs ≤ 4611686018427387904) :
    ACalls Tryz.prog W0 74 [v, .v (.int .i64 k)] H (fun u H' => u = .v (.int .i64 (k + cntL xs)) ∧ Chg S H H' ∧ OwnS H' S v (putL xs k)) := by
  refine acallw Tryz.func74 rfl (by kernel_rfl) (by kernel_rfl) fun hc hw => ?_
  have ha := ho.slr (W0 := W0)
  have hb := ha.2.1; simp only [big] at hb
  repeat' (first | simp -implicitDefEqProofs only [go_sem])
  refine acode_while (fun i : Nat => [(0, v), (1, .v (.int .i64 (k + cntL (xs.take i)))), (5, .v (.int .i64 i))]) (fun i H' => Chg S H H' ∧ i ≤ xs.length ∧ OwnS H' S v (mkTo xs k i)) (fun i => xs.length - i) 0 ⟨Chg.refl _ _, by omega, by rw [mkTo_zero]; exact ho⟩ ?_ (by simp only [frOk, go_sem]; simp [cntL])
  rintro i H' ⟨hC, hi, hO⟩
  have hl := (hO.slr (W0 := W0)).slLen
  rw [mkTo_length] at hl
  have hc2 := cntL_take_le xs i
  rcases Nat.lt_or_ge i xs.length with hlt | hge
  · obtain ⟨b, o, pre, mid, post, S1, S2, S3, rfl, hB, hp, hm, hS, hown, put⟩ := hO.get i (by rw [mkTo_length]; exact hlt)
    rw [mkTo_get _ _ _ hlt] at hown
    simp only [mkTo_length] at *
    obtain ⟨p1, p2, p3, p4, p5⟩ := foc_parts hS hn
    obtain ⟨v_rows, S_rows, rfl, rfl, f0, f1, f2, f3, f4, f5, f6, f7, f8, f9, f10, f11, f12⟩ := hown
    simp only [Ob.n, Nat.mul_one, List.cons_append, List.nil_append] at hB hp
    have hc := cntL_take hlt
    have hc2 := cntL_take_le xs (i + 1)
    have hc3 : Mk.cnt xs[i] = 12 + cntL xs[i].rows := rfl
    have hne := foc_ne hS hn
    have hbS : b ∈ S := by rw [hS]; exact List.mem_cons_self ..
    generalize hkk : k + (cntL (xs.take i) : Int) = kk at *
    repeat' (first | simp -implicitDefEqProofs only [go_sem] | (simp -implicitDefEqProofs (disch := omega) only [hB, blk_set_self, Int.toNat_natCast, wr_preA hp, wr_pre0 hp, wr_succ, wr_zero, wr_none, drop_preA hp, drop_pre0 hp, set_set, List.length_append, List.length_cons]) | (rw [if_pos (by omega)]) | refine ACallK.eq (markText_ok _ _ _ (by omega)) ?_ | refine acond_decT (by omega) ?_ | simp -implicitDefEqProofs (disch := omega) only [wrap_in, u8_small, Int.tmod_eq_emod_of_nonneg, Int.tdiv_eq_ediv_of_nonneg] | (with_reducible refine And.intro (by omega) ?_) | fail)
    refine ACallK.of (markRowS_ok _ v_rows xs[i].rows _ S2 _ (f12.setne (fun x hx => p2 x (hx))) p1 (by omega) (by omega)) ?_
    rintro _ G0 ⟨rfl, g0, w0⟩
    have hB0 := (g0.2 b p3).trans (blk_set_self _ _ _)
    repeat' (first | simp -implicitDefEqProofs only [go_sem] | simp -implicitDefEqProofs (disch := omega) only [wrap_in, u8_small, Int.tmod_eq_emod_of_nonneg, Int.tdiv_eq_ediv_of_nonneg])
    refine back (i + 1) ⟨?_, by omega, ?_⟩ (by omega) (by simp only [frOk, go_sem]; exact ⟨iv (by omega), iv (by omega)⟩)
    · exact (hC.set hbS _).trans (g0.sub fun x hx => p5 x hx)
    · rw [← mkTo_set xs k i hlt, hkk, hS]
      exact put _ (S2) [_, _, _, _, _, _, _, _, _, _, _, _, _] _ hB0 (fun x hx => (g0.2 x (p4 x hx)).trans (blk_set_ne _ (hne x hx) _)) ⟨v_rows, S2, rfl, rfl, by simp only [inI64, Mk.put]; omega, by simp only [inI64, Mk.put]; omega, by simp only [inI64, Mk.put]; omega, by simp only [inI64, Mk.put]; omega, by simp only [inI64, Mk.put]; omega, by have := mtext_size; simp only [big]; exact Nat.le_trans (this _) (by decide), by simp only [inI64, Mk.put]; omega, by simp only [inI64, Mk.put]; omega, by simp only [inI64, Mk.put]; omega, by simp only [inI64, Mk.put]; omega, by simp only [inI64, Mk.put]; omega, by simp only [inI64, Mk.put]; omega, w0⟩
  · repeat' (first | simp -implicitDefEqProofs only [go_sem] | refine acond_decF (by omega) ?_ | refine abi_len_sl' (by assumption) ?_ | fail)
    rw [List.take_of_length_le hge]
    exact retK_one ⟨rfl, hC, by rw [← mkTo_all xs k hge]; exact hO⟩
theorem heldEvS_ok (W0 : World) (v : AV) (xs : List EvD) (k : Int) (H : AH) (ha : SlR W0 H v (putL xs k)) (h0 : 0 < k) (h1 : k + cntL xs ≤ 4611686018427387904) :
    ACalls Tryz.prog W0 78 [v, .v (.int .i64 k)] H (fun u H' => u = .v (.int .i64 (k + cntL xs)) ∧ H' = H) := by
  refine acallw Tryz.func78 rfl (by kernel_rfl) (by kernel_rfl) fun hc hw => ?_
  have hb := ha.2.1; simp only [big, putL_length] at hb
  have hl := ha.slLen
  rw [putL_length] at hl
  have hlen := putL_length xs k
  repeat' (first | simp -implicitDefEqProofs only [go_sem])
  refine acode_while (fun i : Nat => [(0, v), (1, .v (.int .i64 (k + cntL (xs.take i)))), (5, .v (.int .i64 i))]) (fun i H' => H' = H ∧ i ≤ xs.length) (fun i => xs.length - i) 0 ⟨rfl, by omega⟩ ?_ (by simp only [frOk, go_sem]; simp [cntL])
  rintro i _ ⟨rfl, hi⟩
  have hc2 := cntL_take_le xs i
  rcases Nat.lt_or_ge i xs.length with hlt | hge
  · have hc := cntL_take hlt
    have hc2 := cntL_take_le xs (i + 1)
    have hc3 : Mk.cnt xs[i] = 12 + cntL xs[i].rows := rfl
    have hlp : i < (putL xs k).length := by rw [putL_length]; exact hlt
    have hg : (putL xs k)[i] = Mk.put xs[i] (k + (cntL (xs.take i) : Int)) := by
      have := putL_get xs k i hlt
      rw [List.getElem?_eq_getElem hlp] at this
      exact Option.some.inj this
    generalize hkk : k + (cntL (xs.take i) : Int) = kk at *
    simp only [Mk.put] at hg
    repeat' (first | simp -implicitDefEqProofs only [go_sem] | (refine aK_sl (by assumption) (by omega) ?_; intro _ hx; rw [hg] at hx; obtain ⟨_, rfl, _, -⟩ := EvD.out hx) | (simp -implicitDefEqProofs (disch := omega) only [wrap_in, Int.tmod_eq_emod_of_nonneg]) | refine ACallK.eq (markText_ok _ _ _ (by omega)) ?_ | (refine ACallK.eq (heldRowS_ok _ _ xs[i].rows _ _ (SlR.sub' (by assumption)) (by omega) (by omega)) ?_) | refine acond_decF (by omega) ?_ | refine acond_decT (by omega) ?_ | refine abi_len_sl' (by assumption) ?_ | refine aixs_sln (by assumption) ?_ | refine afa_sl (by assumption) ?_ | ((with_reducible refine adraw_plan [(0, []), (1, []), (2, []), (3, []), (4, []), (5, []), (6, []), (7, [0, 1, 2, 3, 4, 5]), (8, [])] ?_ ?_ ?_); (· kernel_rfl); (· decide +kernel)) | (with_reducible refine And.intro ?_ ?_))
    all_goals first | exact back (i + 1) (by omega) (by omega) (by simp only [frOk, go_sem]; exact ⟨iv (by omega), iv (by omega)⟩) | trace_state
  · repeat' (first | simp -implicitDefEqProofs only [go_sem] | refine acond_decF (by omega) ?_ | refine abi_len_sl' (by assumption) ?_ | refine retK_eq ?_)
    rw [List.take_of_length_le hge]
end Go.Proofs.YtipfnhfcoolhaaaGreat.Aw
end
section
namespace Go.Proofs.YtipfnhfcoolhaaaGreat.Aw
open Go Go.RowKit
set_option maxRecDepth 100000
set_option maxHeartbeats 2000000
attribute [-go_sem] wr_eq
theorem markWorld_ok (W0 : World) (cs : List AV) (x : WorldD) (k : Int) (S : List Nat) (H : AH) (ho : Own.own H S cs x) (hn : S.Nodup) (h0 : 0 < k) (h1 : k + Mk.cnt x ≤ 4611686018427387904) :
    ACalls Tryz.prog W0 24 [.agg cs, .v (.int .i64 k)] H (fun u H' => u = .v (.int .i64 (k + Mk.cnt x)) ∧ Upd S H H' S ∧ Own.own H' S cs (Mk.put x k)) := by
  obtain ⟨v_cells, v_jobs, v_todo, v_log, S_cells, S_jobs, S_todo, S_log, rfl, rfl, f0, f1, f2, f3, f4, f5⟩ := ho
  have hk : Mk.cnt x = cntL x.cells + cntL x.jobs + cntL x.todo + cntL x.log := rfl
  refine acallw Tryz.func24 rfl (by kernel_rfl) (by kernel_rfl) fun hc hw => ?_
  obtain ⟨n0, m0, d0, e0⟩ := nd_two hn
  obtain ⟨n1, m1, d1, e1⟩ := nd_two m0
  obtain ⟨n2, m2, d2, e2⟩ := nd_two m1
  repeat' (first | simp -implicitDefEqProofs only [go_sem])
  refine ACallK.of (markIntS_ok _ v_cells x.cells _ S_cells _ (f0.sub (by repeat (first | exact Sub.refl _ | assumption | refine Sub.new (by assumption) ?_ _ _ | refine Sub.kill_new (by assumption) ?_ _ _ | refine Sub.trans ?_ (by assumption)))) n0 (by omega) (by omega)) ?_
  rintro _ G0 ⟨rfl, g0, w0⟩
  have a0 := (g0.2 H.nxt (fun hm => absurd (hw.lt' (f0.isin _ hm)) (Nat.lt_irrefl _))).trans (blk_new_self _ _ _)
  repeat' (first | simp -implicitDefEqProofs only [go_sem] | (simp only [a0]))
  refine ACallK.of (markJobS_ok _ v_jobs x.jobs _ S_jobs _ ((f1.sub (by repeat (first | exact Sub.refl _ | assumption | refine Sub.new (by assumption) ?_ _ _ | refine Sub.kill_new (by assumption) ?_ _ _ | refine Sub.trans ?_ (by assumption)))).chg g0 (fun x hx => e0 x (List.mem_append_left _ hx))) n1 (by omega) (by omega)) ?_
  rintro _ G1 ⟨rfl, g1, w1⟩
  have a1 := (g1.2 H.nxt (fun hm => absurd (hw.lt' (f1.isin _ hm)) (Nat.lt_irrefl _))).trans a0
  repeat' (first | simp -implicitDefEqProofs only [go_sem] | (simp only [a1]))
  refine ACallK.of (markQueueS_ok _ v_todo x.todo _ S_todo _ (((f2.sub (by repeat (first | exact Sub.refl _ | assumption | refine Sub.new (by assumption) ?_ _ _ | refine Sub.kill_new (by assumption) ?_ _ _ | refine Sub.trans ?_ (by assumption)))).chg g0 (fun x hx => e0 x (List.mem_append_right _ (List.mem_append_left _ hx)))).chg g1 (fun x hx => e1 x (List.mem_append_left _ hx))) n2 (by omega) (by omega)) ?_
  rintro _ G2 ⟨rfl, g2, w2⟩
  have a2 := (g2.2 H.nxt (fun hm => absurd (hw.lt' (f2.isin _ hm)) (Nat.lt_irrefl _))).trans a1
  repeat' (first | simp -implicitDefEqProofs only [go_sem] | (simp only [a2]))
  refine ACallK.of (markEvS_ok _ v_log x.log _ S_log _ ((((f3.sub (by repeat (first | exact Sub.refl _ | assumption | refine Sub.new (by assumption) ?_ _ _ | refine Sub.kill_new (by assumption) ?_ _ _ | refine Sub.trans ?_ (by assumption)))).chg g0 (fun x hx => e0 x (List.mem_append_right _ (List.mem_append_right _ (hx))))).chg g1 (fun x hx => e1 x (List.mem_append_right _ (hx)))).chg g2 (fun x hx => e2 x (hx))) m2 (by omega) (by omega)) ?_
  rintro _ G3 ⟨rfl, g3, w3⟩
  have a3 := (g3.2 H.nxt (fun hm => absurd (hw.lt' (f3.isin _ hm)) (Nat.lt_irrefl _))).trans a2
  repeat' (first | simp -implicitDefEqProofs only [go_sem])
  refine retK_one ⟨iv (by omega), (((((g0.sub (fun x hx => List.mem_append_left _ hx)).trans (g1.sub (fun x hx => List.mem_append_right _ (List.mem_append_left _ hx)))).trans (g2.sub (fun x hx => List.mem_append_right _ (List.mem_append_right _ (List.mem_append_left _ hx))))).trans (g3.sub (fun x hx => List.mem_append_right _ (List.mem_append_right _ (List.mem_append_right _ (hx)))))).upd hn).start (by repeat (first | exact Sub.refl _ | assumption | refine Sub.new (by assumption) ?_ _ _ | refine Sub.kill_new (by assumption) ?_ _ _ | refine Sub.trans ?_ (by assumption))), ?_⟩
  refine ⟨v_cells, v_jobs, v_todo, v_log, S_cells, S_jobs, S_todo, S_log, rfl, rfl, by simpa only [Mk.put, Int.add_assoc, Int.natCast_add] using (((w0).chg g1 (fun x hx hm => d0 x hx (List.mem_append_left _ hm))).chg g2 (fun x hx hm => d0 x hx (List.mem_append_right _ (List.mem_append_left _ hm)))).chg g3 (fun x hx hm => d0 x hx (List.mem_append_right _ (List.mem_append_right _ (hm)))), by simpa only [Mk.put, Int.add_assoc, Int.natCast_add] using ((w1).chg g2 (fun x hx hm => d1 x hx (List.mem_append_left _ hm))).chg g3 (fun x hx hm => d1 x hx (List.mem_append_right _ (hm))), by simpa only [Mk.put, Int.add_assoc, Int.natCast_add] using (w2).chg g3 (fun x hx hm => d2 x hx (hm)), by simpa only [Mk.put, Int.add_assoc, Int.natCast_add] using w3, f4, f5⟩
theorem heldWorld_ok (W0 : World) (cs : List AV) (x : WorldD) (k : Int) (H : AH) (ha : Ob.rep W0 H cs (Mk.put x k)) (h0 : 0 < k) (h1 : k + Mk.cnt x ≤ 4611686018427387904) :
    ACalls Tryz.prog W0 25 [.agg cs, .v (.int .i64 k)] H (fun u H' => u = .v (.int .i64 (k + Mk.cnt x)) ∧ H' = H) := by
  obtain ⟨v_cells, v_jobs, v_todo, v_log, rfl, f0, f1, f2, f3, f4, f5⟩ := ha
  have hk : Mk.cnt x = cntL x.cells + cntL x.jobs + cntL x.todo + cntL x.log := rfl
  refine acallw Tryz.func25 rfl (by kernel_rfl) (by kernel_rfl) fun hc hw => ?_
  simp only [Mk.put] at f0 f1 f2 f3
  repeat' (first | simp -implicitDefEqProofs only [go_sem] | (refine ACallK.eq (heldIntS_ok _ _ x.cells _ _ (SlR.sub' f0) (by omega) (by omega)) ?_) | (refine ACallK.eq (heldJobS_ok _ _ x.jobs _ _ (SlR.sub' f1) (by omega) (by omega)) ?_) | (refine ACallK.eq (heldQueueS_ok _ _ x.todo _ _ (SlR.sub' f2) (by omega) (by omega)) ?_) | (refine ACallK.eq (heldEvS_ok _ _ x.log _ _ (SlR.sub' f3) (by omega) (by omega)) ?_) | refine acond_decF (by omega) ?_ | refine retK_back (by assumption) ?_ | fail)
  all_goals first | exact iv (by omega) | (exfalso; omega)
end Go.Proofs.YtipfnhfcoolhaaaGreat.Aw
end
