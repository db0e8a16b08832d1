/- Parts of a proof: Gc Wd Mq Fw Fs Fz Fs3 Fj Fg Fgi. -/
import Derived.Test.YtipfnhfcoolhaaaGreatK11
import Derived.Test.YtipfnhfcoolhaaaGreatK04
import Derived.Test.YtipfnhfcoolhaaaGreatK07
import Derived.Test.YtipfnhfcoolhaaaGreatK05
import Derived.Test.YtipfnhfcoolhaaaGreatK03
import Derived.Test.YtipfnhfcoolhaaaGreatK06
import Derived.Test.YtipfnhfcoolhaaaGreatK02
set_option linter.unusedVariables false
set_option linter.unusedSimpArgs false
section
namespace Go.Proofs.YtipfnhfcoolhaaaGreat.Aw
open Go Go.RowKit
set_option maxRecDepth 100000
set_option maxHeartbeats 4000000
attribute [-go_sem] wr_eq
theorem fresh5 {n b m : Nat} {A B C D : List Nat} (h1 : Fresh n (b :: (A ++ C))) (h1' : ∀ x ∈ b :: (A ++ C), x < m) (h2 : (B ++ D).Nodup) (h2' : ∀ x ∈ B ++ D, m ≤ x) (hm : n ≤ m) : Fresh n (A ++ (B ++ (C ++ D))) := by
  refine ⟨?_, fun x hx => ?_⟩
  · have := (List.nodup_cons.1 h1.1).2
    have k1 : ∀ x, (x ∈ A ∨ x ∈ C) → x < m := fun x hx => h1' x (by simp only [List.mem_cons, List.mem_append]; exact .inr hx)
    have k2 : ∀ x, (x ∈ B ∨ x ∈ D) → m ≤ x := fun x hx => h2' x (by simp only [List.mem_append]; exact hx)
    simp only [List.nodup_append, List.mem_append] at this h2 ⊢
    grind
  · simp only [List.mem_append] at hx
    have k1 : ∀ x, (x ∈ A ∨ x ∈ C) → n ≤ x := fun x hx => h1.2 x (by simp only [List.mem_cons, List.mem_append]; exact .inr hx)
    have k2 : ∀ x, (x ∈ B ∨ x ∈ D) → m ≤ x := fun x hx => h2' x (by simp only [List.mem_append]; exact hx)
    rcases hx with h | h | h | h
    · exact k1 x (.inl h)
    · have := k2 x (.inl h); omega
    · exact k1 x (.inr h)
    · have := k2 x (.inr h); omega
theorem worldCopy_ok (W0 : World) (cs : List AV) (w : WorldD) (H : AH) (hx : Ob.rep W0 H cs w) (hb : WB w) : ACalls Tryz.prog W0 84 [.agg cs] H (fun u H' => NewV H H' u w) := by
  refine acallw Tryz.func84 rfl (by kernel_rfl) (by kernel_rfl) fun hc hw => ?_
  obtain ⟨xc, xj, xt, xl, rfl, f1, f2, f3, f4, is, inw⟩ := hx
  have c1 := f1.one; have c2 := f2.one; have c3 := f3.one; have c4 := f4.one
  have p1 := f1.leaf; have p2 := f2.leaf; have p3 := f3.leaf; have p4 := f4.leaf
  repeat' (first | simp -implicitDefEqProofs only [go_sem] | (simp -implicitDefEqProofs only [c1, c2, c3, c4, p1, p2, p3, p4, wr_succ, wr_zero, wr_none, set_set, Bool.and_self]) | ((with_reducible refine adraw_plan [(0, []), (1, []), (3, []), (4, []), (2, [3, 4]), (6, []), (5, [6]), (7, []), (8, []), (9, [])] ?_ ?_ ?_); (· kernel_rfl); (· decide +kernel)))
  refine ACallK.of (copied_ok _ xc w.cells _ (f1.sub (by repeat (first | exact Sub.refl _ | assumption | refine Sub.new (by assumption) ?_ _ _ | refine Sub.kill_new (by assumption) ?_ _ _ | refine Sub.trans ?_ (by assumption)))) (by have := hb.cl; omega)).cl ?_
  rintro vc H1 ⟨⟨s1, Sc, oc, Fc⟩, k1⟩
  have n1 := s1.1; simp only [go_sem] at n1
  have z1 : Sub H H1 := Sub.trans (by repeat (first | exact Sub.refl _ | assumption | refine Sub.new (by assumption) ?_ _ _ | refine Sub.kill_new (by assumption) ?_ _ _ | refine Sub.trans ?_ (by assumption))) s1
  have bm := s1.2 H.nxt _ (by simp only [go_sem]; rfl)
  have br := s1.2 (H.nxt + 1) _ (by simp only [go_sem]; rfl)
  have bo := s1.2 (H.nxt + 2) _ (by simp only [go_sem]; rfl)
  have lvc := oc.leaf; have cvc := oc.one
  have hFc := Fc.2; simp only [go_sem] at hFc
  repeat' (first | simp -implicitDefEqProofs only [go_sem] | (simp -implicitDefEqProofs only [bm, br, bo, c1, c2, c3, c4, p1, p2, p3, p4, lvc, cvc, wr_succ, wr_zero, wr_none, set_set, Bool.and_self]))
  refine ACallK.of (queuesCopy_ok _ xt w.todo _ (f3.sub z1) hb.tl hb.tq).cl ?_
  rintro vt H2 ⟨⟨s2, St, ot, Ft⟩, k2⟩
  have n2 := s2.1
  have z2 : Sub H H2 := z1.trans s2
  have bm := s2.2 _ _ bm
  have br := s2.2 _ _ br
  have bo := s2.2 _ _ bo
  have lvt := ot.leaf; have cvt := ot.one
  have hFt := Ft.2
  have hlc : ∀ x ∈ Sc, x < H1.nxt := fun x hx => k1.1.lt' (oc.isin x hx)
  have hlt' : ∀ x ∈ St, x < H2.nxt := fun x hx => k2.1.lt' (ot.isin x hx)
  have oc := oc.sub s2
  have e20 : ¬ H.nxt = H.nxt + 2 := by omega
  repeat' (first | simp -implicitDefEqProofs only [go_sem] | (simp -implicitDefEqProofs only [bm, br, bo, c1, c2, c3, c4, p1, p2, p3, p4, lvc, cvc, lvt, cvt, blk_set_self, wr_succ, wr_zero, wr_none, set_set, Bool.and_self]) | (refine abi_len_sl' f2 ?_))
  obtain ⟨G1, hG1⟩ : ∃ X, X = H2.set (H.nxt + 2) ⟨[vc, .v (.slice none 0 0), vt, .v (.slice none 0 0), AV.v (Value.int IntKind.i64 w.serial), AV.v (Value.int IntKind.i64 w.now)], 6⟩ := ⟨_, rfl⟩
  rw [← hG1]
  have wG1 : G1.wf := by rw [hG1]; exact k2.1.set (k2.1.lt bo) _
  have bm1 : G1.blk H.nxt = some ⟨[xc, xj, xt, xl, AV.v (Value.int IntKind.i64 w.serial), AV.v (Value.int IntKind.i64 w.now)], 6⟩ := by rw [hG1]; exact (blk_set_ne _ e20 _).trans bm
  have br1 : G1.blk (H.nxt + 1) = some ⟨[.v (.slice none 0 0), .v (.slice none 0 0), .v (.slice none 0 0), .v (.slice none 0 0), .v (.int .i64 0), .v (.int .i64 0)], 6⟩ := by rw [hG1]; exact (blk_set_ne _ (by omega) _).trans br
  have bb : G1.blk (H.nxt + 2) = some ⟨[vc, .v (.slice none 0 0), vt, .v (.slice none 0 0), AV.v (Value.int IntKind.i64 w.serial), AV.v (Value.int IntKind.i64 w.now)], 6⟩ := by rw [hG1]; exact blk_set_self _ _ _
  have oc1 : OwnS G1 Sc vc w.cells := by rw [hG1]; exact oc.setne (fun x hx => by have := hFc x hx; omega)
  have ot1 : OwnS G1 St vt w.todo := by rw [hG1]; exact ot.setne (fun x hx => by have := hFt x hx; omega)
  have zG1 : Sub H G1 := by rw [hG1]; exact z2.set hw (by omega) _
  have hGn : H2.nxt = G1.nxt := by rw [hG1]; rfl
  clear hG1
  have hfr : ∀ x ∈ (H.nxt + 2) :: (Sc ++ St), H.nxt + 2 ≤ x ∧ x < G1.nxt := fun x hx => by
    simp only [List.mem_cons, List.mem_append] at hx
    rcases hx with rfl | h | h
    · exact ⟨Nat.le_refl _, wG1.lt bb⟩
    · exact ⟨by have := hFc x h; omega, wG1.lt' (oc1.isin x h)⟩
    · exact ⟨by have := hFt x h; omega, wG1.lt' (ot1.isin x h)⟩
  have hFr : Fresh H.nxt ((H.nxt + 2) :: (Sc ++ St)) := by
    refine ⟨?_, fun x hx => by have := (hfr x hx).1; omega⟩
    simp only [List.nodup_cons, List.nodup_append, List.mem_append]
    refine ⟨?_, Fc.1, Ft.1, fun x hx y hy => by have := hlc x hx; have := hFt y hy; omega⟩
    rintro (h | h)
    · have := hFc _ h; omega
    · have := hFt _ h; omega
  have hjl := hb.jl
  have hll := hb.ll
  refine acode_while (fun i : Nat => [(1, .ptr H.nxt 0), (2, .ptr (H.nxt + 1) 0), (3, .ptr (H.nxt + 2) 0), (20, xj), (21, .v (.int .i64 w.jobs.length)), (22, .v (.int .i64 i))]) (fun i H' => H'.wf ∧ (G1.nxt ≤ H'.nxt ∧ ∀ x B, x ≠ H.nxt + 2 → G1.blk x = some B → H'.blk x = some B) ∧ i ≤ w.jobs.length ∧ ∃ vj S, H'.blk (H.nxt + 2) = some ⟨[vc, vj, vt, .v (.slice none 0 0), .v (.int .i64 w.serial), .v (.int .i64 w.now)], 6⟩ ∧ OwnS H' S vj (w.jobs.take i) ∧ S.Nodup ∧ ∀ x ∈ S, G1.nxt ≤ x) (fun i => w.jobs.length - i) 0 ?_ ?_
  · exact ⟨wG1, ⟨Nat.le_refl _, fun _ _ _ h => h⟩, Nat.zero_le _, _, [], bb, ownS_none _, List.nodup_nil, fun _ h => by cases h⟩
  rintro i H' ⟨hw', ⟨hn', hk'⟩, hi, vj, S, hB, ho, hn, hS⟩
  have hs : Sub H H' := ⟨by omega, fun x B hX => hk' x B (by have := hw.lt hX; omega) (zG1.2 _ _ hX)⟩
  have bm2 := hk' _ _ (by omega) bm1
  have br2 := hk' _ _ (by omega) br1
  have hlt : ∀ x ∈ S, x < H'.nxt := fun x hx => hw'.lt' (ho.isin x hx)
  have hlt0 := hw'.lt hB
  have lvj := ho.leaf; have cvj := ho.one
  have nn2 : ¬ H.nxt + 2 = H'.nxt := by omega
  rcases Nat.lt_or_ge i w.jobs.length with hlt2 | hge
  · have hlen : (w.jobs.take i).length ≤ 10000000 := by simp; omega
    have hri := hb.jk _ (List.getElem_mem hlt2)
    repeat' (first | simp -implicitDefEqProofs only [go_sem] | (simp -implicitDefEqProofs only [hB, bm2, br2, nn2, if_false]) | (refine aK_slw f2 hlt2 ?_; intro cs hcs; have hcs0 := hcs; obtain ⟨y1, y2, rfl, hy1, hy2, -⟩ := JobD.out hcs) | (simp -implicitDefEqProofs only [wr_succ, wr_zero, wr_none, set_set]) | refine acond_decT (by omega) ?_ | refine aixs_sln (by assumption) ?_ | rw [SlR.leaf (by assumption)] | ((with_reducible refine adraw_plan [(0, []), (1, []), (2, []), (3, [0, 1]), (4, [0, 1]), (5, []), (6, []), (7, [])] ?_ ?_ ?_); (· kernel_rfl); (· decide +kernel)))
    refine ACallK.of (jobCopy_ok _ _ w.jobs[i] _ (Ob.sub (hs.trans ((Sub.refl _).new hw' _ _)) hcs0) hri).cl ?_
    rintro _ H3 ⟨⟨s3, S3, c3', rfl, w3, F3⟩, k3⟩
    have hw3 := k3.1
    have hcl3 : c3'.length = 18 := Ob.len (Own.rep (W0 := W0) w3)
    have lf3 : c3'.all leafA = true := Ob.leaf (Own.rep (W0 := W0) w3)
    have hF : ∀ x ∈ S3, H'.nxt ≤ x := fun x hx => Nat.le_trans (Nat.le_succ _) (F3.2 x hx)
    have sA : Sub H' H3 := ((Sub.refl _).new hw' _ _).trans s3
    have e3 := sA.1
    have hB3 := sA.2 _ _ hB
    have nb3 : ¬ H.nxt + 2 = H3.nxt := fun h => by have := hw3.lt hB3; omega
    repeat' (first | simp -implicitDefEqProofs only [go_sem] | (simp only [hcl3]) | (simp -implicitDefEqProofs only [hB3, nb3, if_false]) | (refine app_one (x := w.jobs[i]) (S2 := S3) (ho.sub (sA.trans ((Sub.refl _).new hw3 _ _))) (Own.sub w3 ((Sub.refl _).new hw3 _ _)) (nd_lt hn F3.1 hlt hF) (hw3.new _ _) (by simp only [go_sem]) (fun hm => absurd (hlt _ hm) (by omega)) ?_; intro H4 S4 v4 w4 o4 u4 l4) | fail)
    have bN : H.nxt + 2 ∉ S ++ S3 := fun hm => (List.mem_append.1 hm).elim (fun h => by have := hS _ h; omega) (fun h => by have := hF _ h; omega)
    have h4 := u4.start (H := H') (sA.trans ((Sub.refl _).new hw3 _ _))
    have hB4 := h4.2.1 _ _ bN hB
    have lv4 := o4.leaf; have cv4 := o4.one
    repeat' (first | simp -implicitDefEqProofs only [go_sem] | (simp -implicitDefEqProofs only [hB4, lv4, cv4, wr_succ, wr_zero, wr_none, set_set]) | simp -implicitDefEqProofs (disch := omega) only [wrap_in, u8_small, Int.tmod_eq_emod_of_nonneg, Int.tdiv_eq_ediv_of_nonneg])
    have hS4 : ∀ x ∈ S4, G1.nxt ≤ x := fun x hx => (h4.2.2.1 x hx).elim (fun h => (List.mem_append.1 h).elim (hS x) (fun h => by have := hF x h; omega)) (fun h => by omega)
    refine back (i + 1) ⟨w4.set (w4.lt hB4) _, ⟨Nat.le_trans hn' h4.1, fun x B hX hG1 => ?_⟩, by omega, v4, S4, (by first | exact blk_set_self _ _ _ | rfl | simp only [if_true]), ?_, h4.2.2.2, hS4⟩ (by omega)
    · (first | rw [blk_set_ne _ hX] | rw [if_neg hX])
      exact h4.2.1 x B (fun hm => by have := wG1.lt hG1; exact (List.mem_append.1 hm).elim (fun h => by have := hS _ h; omega) (fun h => by have := hF _ h; omega)) (hk' x B hX hG1)
    · rw [List.take_succ_eq_append_getElem hlt2]; exact o4.setne (fun x hx => by have := hS4 x hx; omega)
  · obtain rfl : i = w.jobs.length := by omega
    rw [List.take_length] at ho
    repeat' (first | simp -implicitDefEqProofs only [go_sem] | (simp -implicitDefEqProofs only [hB, bm2, br2]) | (refine abi_len_sl' f4 ?_) | refine acond_decF (by omega) ?_ | fail)
    have kfr : ∀ x ∈ Sc ++ St, x < G1.nxt ∧ x ≠ H.nxt + 2 := fun x hx => ⟨(hfr x (List.mem_cons_of_mem _ hx)).2, fun h => (List.nodup_cons.1 hFr.1).1 (h ▸ hx)⟩
    refine acode_while (fun i : Nat => [(1, .ptr H.nxt 0), (2, .ptr (H.nxt + 1) 0), (3, .ptr (H.nxt + 2) 0), (35, xl), (36, .v (.int .i64 w.log.length)), (37, .v (.int .i64 i))]) (fun i H5 => H5.wf ∧ (H'.nxt ≤ H5.nxt ∧ ∀ x B, x ≠ H.nxt + 2 → H'.blk x = some B → H5.blk x = some B) ∧ i ≤ w.log.length ∧ ∃ vl T, H5.blk (H.nxt + 2) = some ⟨[vc, vj, vt, vl, .v (.int .i64 w.serial), .v (.int .i64 w.now)], 6⟩ ∧ OwnS H5 T vl (w.log.take i) ∧ T.Nodup ∧ ∀ x ∈ T, H'.nxt ≤ x) (fun i => w.log.length - i) 0 ?_ ?_
    · exact ⟨hw', ⟨Nat.le_refl _, fun _ _ _ h => h⟩, Nat.zero_le _, _, [], hB, ownS_none _, List.nodup_nil, fun _ h => by cases h⟩
    rintro i J ⟨wJ, ⟨hnJ, hkJ⟩, hiJ, vl, T, hBJ, hoJ, hndJ, hSJ⟩
    have hsJ : Sub H J := ⟨by omega, fun x B hX => hkJ x B (by have := hw.lt hX; omega) (hs.2 _ _ hX)⟩
    have bmJ := hkJ _ _ (by omega) bm2
    have brJ := hkJ _ _ (by omega) br2
    have hltJ : ∀ x ∈ T, x < J.nxt := fun x hx => wJ.lt' (hoJ.isin x hx)
    have hlt0J := wJ.lt hBJ
    have lvl := hoJ.leaf; have cvl := hoJ.one
    have nnJ : ¬ H.nxt + 2 = J.nxt := by omega
    rcases Nat.lt_or_ge i w.log.length with hlt2 | hge2
    · have hlen : (w.log.take i).length ≤ 10000000 := by simp; omega
      have hri := hb.lr _ (List.getElem_mem hlt2)
      repeat' (first | simp -implicitDefEqProofs only [go_sem] | (simp -implicitDefEqProofs only [hBJ, bmJ, brJ, nnJ, if_false]) | (refine aK_slw f4 hlt2 ?_; intro cs hcs; have hcs0 := hcs; obtain ⟨y1, rfl, hy1, -⟩ := EvD.out hcs) | (simp -implicitDefEqProofs only [wr_succ, wr_zero, wr_none, set_set]) | refine acond_decT (by omega) ?_ | refine aixs_sln (by assumption) ?_ | rw [SlR.leaf (by assumption)] | ((with_reducible refine adraw_plan [(0, []), (1, []), (2, []), (3, [0, 1]), (4, [0, 1]), (5, []), (6, []), (7, [])] ?_ ?_ ?_); (· kernel_rfl); (· decide +kernel)))
      refine ACallK.of (evCopy_ok _ _ w.log[i] _ (Ob.sub (hsJ.trans ((Sub.refl _).new wJ _ _)) hcs0) hri).cl ?_
      rintro _ H3 ⟨⟨s3, S3, c3', rfl, w3, F3⟩, k3⟩
      have hw3 := k3.1
      have hcl3 : c3'.length = 13 := Ob.len (Own.rep (W0 := W0) w3)
      have lf3 : c3'.all leafA = true := Ob.leaf (Own.rep (W0 := W0) w3)
      have hF : ∀ x ∈ S3, J.nxt ≤ x := fun x hx => Nat.le_trans (Nat.le_succ _) (F3.2 x hx)
      have sA : Sub J H3 := ((Sub.refl _).new wJ _ _).trans s3
      have e3 := sA.1
      have hB3 := sA.2 _ _ hBJ
      have nb3 : ¬ H.nxt + 2 = H3.nxt := fun h => by have := hw3.lt hB3; omega
      repeat' (first | simp -implicitDefEqProofs only [go_sem] | (simp only [hcl3]) | (simp -implicitDefEqProofs only [hB3, nb3, if_false]) | (refine app_one (x := w.log[i]) (S2 := S3) (hoJ.sub (sA.trans ((Sub.refl _).new hw3 _ _))) (Own.sub w3 ((Sub.refl _).new hw3 _ _)) (nd_lt hndJ F3.1 hltJ hF) (hw3.new _ _) (by simp only [go_sem]) (fun hm => absurd (hltJ _ hm) (by omega)) ?_; intro H4 S4 v4 w4 o4 u4 l4) | fail)
      have bN : H.nxt + 2 ∉ T ++ S3 := fun hm => (List.mem_append.1 hm).elim (fun h => by have := hSJ _ h; omega) (fun h => by have := hF _ h; omega)
      have h4 := u4.start (H := J) (sA.trans ((Sub.refl _).new hw3 _ _))
      have hB4 := h4.2.1 _ _ bN hBJ
      have lv4 := o4.leaf; have cv4 := o4.one
      repeat' (first | simp -implicitDefEqProofs only [go_sem] | (simp -implicitDefEqProofs only [hB4, lv4, cv4, wr_succ, wr_zero, wr_none, set_set]) | simp -implicitDefEqProofs (disch := omega) only [wrap_in, u8_small, Int.tmod_eq_emod_of_nonneg, Int.tdiv_eq_ediv_of_nonneg])
      have hS4 : ∀ x ∈ S4, H'.nxt ≤ x := fun x hx => (h4.2.2.1 x hx).elim (fun h => (List.mem_append.1 h).elim (hSJ x) (fun h => by have := hF x h; omega)) (fun h => by omega)
      refine back (i + 1) ⟨w4.set (w4.lt hB4) _, ⟨Nat.le_trans hnJ h4.1, fun x B hX hG1 => ?_⟩, by omega, v4, S4, (by first | exact blk_set_self _ _ _ | rfl | simp only [if_true]), ?_, h4.2.2.2, hS4⟩ (by omega)
      · (first | rw [blk_set_ne _ hX] | rw [if_neg hX])
        exact h4.2.1 x B (fun hm => by have := hw'.lt hG1; exact (List.mem_append.1 hm).elim (fun h => by have := hSJ _ h; omega) (fun h => by have := hF _ h; omega)) (hkJ x B hX hG1)
      · rw [List.take_succ_eq_append_getElem hlt2]; exact o4.setne (fun x hx => by have := hS4 x hx; omega)
    · obtain rfl : i = w.log.length := by omega
      rw [List.take_length] at hoJ
      have lvc1 := oc1.leaf; have cvc1 := oc1.one
      have lvt1 := ot1.leaf; have cvt1 := ot1.one
      repeat' (first | simp -implicitDefEqProofs only [go_sem] | (simp -implicitDefEqProofs only [hBJ, bmJ, brJ, lvj, cvj, lvc, cvc, lvt, cvt, lvl, cvl, wr_succ, wr_zero, wr_none, set_set, Bool.and_self]) | refine acond_decF (by omega) ?_ | fail)
      have hkA : ∀ x, x ≠ H.nxt + 1 → x ≠ H.nxt + 2 → (H'.blk x).isSome = true → (J.set (H.nxt + 1) ⟨[vc, vj, vt, vl, .v (.int .i64 w.serial), .v (.int .i64 w.now)], 6⟩).blk x = H'.blk x := fun x h1 h2 hs => by
        obtain ⟨B, hBx⟩ := Option.isSome_iff_exists.1 hs
        rw [blk_set_ne _ h1, hBx]; exact hkJ x B h2 hBx
      have hkB : ∀ x ∈ Sc ++ St, (G1.blk x).isSome = true → (J.set (H.nxt + 1) ⟨[vc, vj, vt, vl, .v (.int .i64 w.serial), .v (.int .i64 w.now)], 6⟩).blk x = G1.blk x := fun x hx hs => by
        obtain ⟨B, hBx⟩ := Option.isSome_iff_exists.1 hs
        have h1 := hk' x B (kfr x hx).2 hBx
        have h2 := hfr x (List.mem_cons_of_mem _ hx)
        rw [hkA x (by omega) (kfr x hx).2 (by rw [h1]; rfl), h1, hBx]
      refine retK_one ⟨hsJ.set hw (Nat.le_succ _) _, Sc ++ (S ++ (St ++ T)), _, rfl, ⟨vc, vj, vt, vl, Sc, S, St, T, rfl, rfl, oc1.eq (fun x hx => hkB x (List.mem_append_left _ hx) (oc1.isin x hx)), ho.eq (fun x hx => hkA x (by have := hS x hx; omega) (by have := hS x hx; omega) (ho.isin x hx)), ot1.eq (fun x hx => hkB x (List.mem_append_right _ hx) (ot1.isin x hx)), hoJ.setne (fun x hx => by have := hSJ x hx; omega), is, inw⟩, ?_⟩
      refine fresh5 hFr (fun x hx => (hfr x hx).2) (nd_lt hn hndJ hlt hSJ) (fun x hx => ?_) (by omega)
      rcases List.mem_append.1 hx with h | h
      · exact hS x h
      · have := hSJ x h; omega
end Go.Proofs.YtipfnhfcoolhaaaGreat.Aw
end
section
namespace Go.Proofs.YtipfnhfcoolhaaaGreat.Aw
open Go Go.RowKit
theorem Upd.wld {Sc Sl S2 Sc' Sl' S2' S1 S3 St : List Nat} {b : Nat} {H H1 : AH} (hn : (Sc ++ ((b :: (S1 ++ (S2 ++ S3))) ++ (St ++ Sl))).Nodup) (hi : ∀ x ∈ Sc ++ ((b :: (S1 ++ (S2 ++ S3))) ++ (St ++ Sl)), x < H.nxt) (g : Upd (Sc ++ (Sl ++ S2)) H H1 (Sc' ++ (Sl' ++ S2'))) : Upd (Sc ++ ((b :: (S1 ++ (S2 ++ S3))) ++ (St ++ Sl))) H H1 (Sc' ++ ((b :: (S1 ++ (S2' ++ S3))) ++ (St ++ Sl'))) := by
  obtain ⟨g1, g2, g3, g4⟩ := g
  refine ⟨g1, fun x B hx hB => g2 x B (fun hm => hx ?_) hB, ?_, ?_⟩
  · simp only [List.mem_append, List.mem_cons] at hm ⊢; grind
  · intro x hx; have := g3 x; simp only [List.mem_append, List.mem_cons] at hx this ⊢; grind
  · simp only [List.nodup_append, List.nodup_cons, List.mem_append, List.mem_cons] at *; grind
theorem Upd.nd3 {Sc Sl S2 S1 S3 St : List Nat} {b : Nat} (hn : (Sc ++ ((b :: (S1 ++ (S2 ++ S3))) ++ (St ++ Sl))).Nodup) : (Sc ++ (Sl ++ S2)).Nodup ∧ b ∉ Sc ++ (Sl ++ S2) ∧ (∀ x ∈ S1 ++ S3, x ∉ Sc ++ (Sl ++ S2) ∧ x ≠ b) ∧ ∀ x ∈ St, x ∉ Sc ++ (Sl ++ S2) ∧ x ≠ b := by
  simp only [List.nodup_append, List.nodup_cons, List.mem_append, List.mem_cons] at *; grind
theorem world_put {H H1 H' : AH} {Sc Sl S2 Sc' Sl' S2' S1 S3 St : List Nat} {b t : Nat} {w w' : WorldD} {j' : JobD} {vc' vj vt vl' : AV} {pre post : List AV} {cj' : List AV} (hn : (Sc ++ ((b :: (S1 ++ (S2 ++ S3))) ++ (St ++ Sl))).Nodup) (hi : ∀ x ∈ Sc ++ ((b :: (S1 ++ (S2 ++ S3))) ++ (St ++ Sl)), x < H.nxt) (w1 : H1.wf)
    (g : Upd (Sc ++ (Sl ++ S2)) H H1 (Sc' ++ (Sl' ++ S2'))) (oc : OwnS H1 Sc' vc' w'.cells) (ol : OwnS H1 Sl' vl' w'.log) (oj : Own.own H1 S2' cj' j') (ot : OwnS H St vt w.todo) (hw : H.wf)
    (hj : w'.jobs = w.jobs) (ht : w'.todo = w.todo) (is : inI64 w'.serial) (inw : inI64 w'.now)
    (put : ∀ (H' : AH) (S2' : List Nat) (mid' : List AV) (y' : JobD), H'.blk b = some ⟨pre ++ (mid' ++ post), 18⟩ → (∀ x ∈ S1 ++ S3, H'.blk x = H.blk x) → Own.own H' S2' mid' y' → OwnS H' (b :: (S1 ++ (S2' ++ S3))) vj (w.jobs.set t y')) (h13 : ∀ x ∈ S1 ++ S3, (H.blk x).isSome = true)
    (hB : H'.blk b = some ⟨pre ++ (cj' ++ post), 18⟩) (hk : ∀ x, x ≠ b → (x < H.nxt ∨ (x ∈ Sc' ++ (Sl' ++ S2'))) → H'.blk x = H1.blk x) (hx : H1.nxt ≤ H'.nxt) :
    Own.own H' (Sc' ++ ((b :: (S1 ++ (S2' ++ S3))) ++ (St ++ Sl'))) (wcs vc' vj vt vl' w') ({ w' with jobs := w'.jobs.set t j' } : WorldD) ∧ Upd (Sc ++ ((b :: (S1 ++ (S2 ++ S3))) ++ (St ++ Sl))) H H' (Sc' ++ ((b :: (S1 ++ (S2' ++ S3))) ++ (St ++ Sl'))) := by
  have gg := Upd.wld hn hi g
  obtain ⟨m1, m2, m3, m4⟩ := Upd.nd3 hn
  obtain ⟨p1, p2, p3, p4⟩ := Upd.nd3 gg.2.2.2
  have keep : ∀ x, x ∉ Sc ++ (Sl ++ S2) → x ≠ b → (H.blk x).isSome = true → H'.blk x = H.blk x := fun x hx hb hs => by
    obtain ⟨B, hB⟩ := Option.isSome_iff_exists.1 hs
    rw [hk x hb (.inl (hw.lt hB)), hB]; exact g.2.1 x B hx hB
  have own : ∀ x ∈ Sc' ++ (Sl' ++ S2'), H'.blk x = H1.blk x := fun x hx => hk x (fun h => p2 (h ▸ hx)) (.inr hx)
  refine ⟨⟨vc', vj, vt, vl', Sc', b :: (S1 ++ (S2' ++ S3)), St, Sl', rfl, rfl, ?_, ?_, ?_, ?_, is, inw⟩, Nat.le_trans gg.1 hx, fun x B hx' hB' => ?_, gg.2.2.1, gg.2.2.2⟩
  · exact oc.eq fun x hx => own x (List.mem_append_left _ hx)
  · rw [hj]
    exact put H' S2' cj' j' hB (fun x hx => keep x (m3 x hx).1 (m3 x hx).2 (h13 x hx)) (Own.eq oj fun x hx => own x (List.mem_append_right _ (List.mem_append_right _ hx)))
  · show OwnS H' St vt w'.todo
    rw [ht]
    exact ot.eq fun x hx => keep x (m4 x hx).1 (m4 x hx).2 (ot.isin x hx)
  · exact ol.eq fun x hx => own x (List.mem_append_right _ (List.mem_append_left _ hx))
  · rw [hk x (fun h => hx' (by rw [h]; simp)) (.inl (hw.lt hB'))]; exact gg.2.1 x B hx' hB'
theorem OwnS.tail {α : Type} [Ob α] [Own α] {H : AH} {S : List Nat} {b o n : Nat} {x : α} {xs : List α} (h : OwnS H S (.sl b o n) (x :: xs)) (hS : S = [b]) : OwnS H S (.sl b (o + Ob.n α) xs.length) xs := by
  rcases h with ⟨h, -, -⟩ | ⟨b', o', cs, T, e, hB, ho, hb, rfl, hO⟩
  · cases h
  · injection e with e1 e2 e3
    subst e1 e2
    have hT : T = [] := by simpa using hS
    subst hT
    obtain ⟨S1, S2, S3, e, h1, h2, h3⟩ := hO.get 0 (by simp)
    have e3 : S3 = [] := by have := e; simp only [List.nil_eq, List.append_eq_nil_iff] at this; exact this.2.2
    subst e3
    simp only [List.length_cons, Nat.add_mul, Nat.one_mul] at ho hb
    refine .inr ⟨b, o + Ob.n α, cs, [], rfl, hB, by omega, by omega, rfl, ?_⟩
    simp only [Nat.zero_add, Nat.one_mul, List.drop_succ_cons, List.drop_zero] at h3
    have e4 : ((cs.drop o).take ((x :: xs).length * Ob.n α)).drop (Ob.n α) = (cs.drop (o + Ob.n α)).take (xs.length * Ob.n α) := by
      rw [List.drop_take, List.drop_drop, List.length_cons, Nat.add_mul, Nat.one_mul, Nat.add_sub_cancel]
    rw [e4] at h3; exact h3
end Go.Proofs.YtipfnhfcoolhaaaGreat.Aw
end
section
namespace Go.Proofs.YtipfnhfcoolhaaaGreat.Aw
open Go
set_option maxHeartbeats 1000000
def RowB (k : Nat) (a b : List EvD) : Prop := b = a ∨ ∃ e : EvD, b = a ++ [e] ∧ e.rows.length ≤ k
theorem rb_ite {k : Nat} {l : List EvD} {p : Prop} [Decidable p] {a b : WorldD × JobD} (ha : RowB k l a.1.log) (hb : RowB k l b.1.log) : RowB k l (if p then a else b).1.log := by
  split
  · exact ha
  · exact hb
theorem moveD_rb (w : WorldD) (t : Nat) (j : JobD) : RowB j.keys.length w.log (moveD w t j).1.log := by
  unfold moveD probeD claimD writeD dataD flushD tellD endD pointD
  repeat' apply rb_ite
  all_goals first
    | exact .inl rfl
    | exact .inr ⟨_, rfl, Nat.zero_le _⟩
    | exact .inr ⟨_, rfl, rowsTo_length _ _ _⟩
def LB (n : Nat) (w : WorldD) : Prop := w.log.length ≤ n ∧ ∀ e ∈ w.log, e.rows.length ≤ 10000000
theorem LB.le {n m : Nat} {w : WorldD} (h : LB n w) (k : n ≤ m) : LB m w := ⟨Nat.le_trans h.1 k, h.2⟩
theorem LB.of {n k : Nat} {w w' : WorldD} (h : LB n w) (hk : k ≤ 100) (r : RowB k w.log w'.log) : LB (n + 1) w' := by
  rcases r with r | ⟨e, r, he⟩
  · exact ⟨by rw [r]; have := h.1; omega, fun x hx => h.2 x (r ▸ hx)⟩
  · refine ⟨by rw [r]; have := h.1; simp; omega, fun x hx => ?_⟩
    rw [r] at hx
    rcases List.mem_append.1 hx with hx | hx
    · exact h.2 x hx
    · rw [List.mem_singleton.1 hx]; omega
theorem stepD_lb {w : WorldD} {t n : Nat} (hok : worldOk w = true) (ht : t < 4) (h : LB n w) : LB (n + 1) (stepD w t) := by
  obtain ⟨_, _, _, _, jl, ja⟩ := worldOk_iff.1 hok
  unfold stepD
  split
  · exact h.le (Nat.le_succ _)
  split
  · rename_i hn hb
    have hj : jobAt t (jobOf w t) = true := by
      unfold jobOf; rw [List.getD_eq_getElem?_getD, List.getElem?_eq_getElem (by omega)]; exact ja t (by omega)
    obtain ⟨_, hj, _⟩ := (jobAt_iff.1 hj).resolve_left (fun e => by rw [e] at hb; cases hb)
    have hk := ((jobOk_iff' _).1 hj).2.2.2.2.2.2.2.1
    have := moveD_rb { w with now := w.now + 1 } t { jobOf w t with steps := IntKind.i64.wrap ((jobOf w t).steps + 1) }
    exact LB.of (w := w) h (k := (jobOf w t).keys.length) (by omega) this
  split
  · exact h.le (Nat.le_succ _)
  · exact LB.of (w := w) h (k := 0) (by omega) (.inr ⟨_, rfl, Nat.le_refl _⟩)
theorem stepS_lb {w : WorldD} {t : Int} {n : Nat} (h : LB n w) : LB (n + 1) (stepS w t) := by
  unfold stepS
  split
  · rename_i hk; exact stepD_lb hk.1 (by omega) h
  · exact h.le (Nat.le_succ _)
theorem wb_of {w : WorldD} (hok : worldOk w = true) (h : LB 10000000 w) : WB w := by
  obtain ⟨cok, tok, _, _, jl, ja⟩ := worldOk_iff.1 hok
  obtain ⟨tl, ta⟩ := todoOk_iff.1 tok
  refine ⟨by rw [(cellsOk_iff.1 cok).2]; omega, by omega, fun j hj => ?_, by omega, fun q hq => ?_, h.1, fun e he => by have := h.2 e he; omega⟩
  · obtain ⟨i, hi, rfl⟩ := List.getElem_of_mem hj
    rcases jobAt_iff.1 (ja i hi) with h | ⟨_, h, _⟩
    · rw [h]; exact ⟨Nat.zero_le _, Nat.zero_le _⟩
    · have := ((jobOk_iff' _).1 h).2.2.2.2.2.2.2; omega
  · obtain ⟨i, hi, rfl⟩ := List.getElem_of_mem hq
    have := (queueOk_iff.1 (ta i hi)).1; omega
theorem stepS_ok {w : WorldD} {t : Int} (h : worldOk w = true) : worldOk (stepS w t) = true := by
  unfold stepS; split
  · exact stepD_ok h (by omega)
  · exact h
theorem sz_wb {w : WorldD} (h : Ob.sz w ≤ 1048576) : WB w ∧ LB 1048576 w := by
  have h1 : Ob.sz w = Ob.sz w.cells + Ob.sz w.jobs + Ob.sz w.todo + Ob.sz w.log := rfl
  have sl : ∀ {α : Type} [Ob α] (l : List α), l.length ≤ Ob.sz l := fun l => by show l.length ≤ l.length + _; omega
  have sm : ∀ {α : Type} [Ob α] {l : List α} {x : α}, x ∈ l → Ob.sz x ≤ Ob.sz l := fun {α _ l x} hx => by
    have := mem_le_sum _ _ (List.mem_map_of_mem (f := Ob.sz) hx)
    show Ob.sz x ≤ l.length + (l.map Ob.sz).sum
    omega
  have lr : ∀ e ∈ w.log, e.rows.length ≤ 1048576 := fun e he => by
    have h3 := sm he
    have h4 : Ob.sz e = Ob.sz e.op + Ob.sz e.rows := rfl
    have h5 := sl e.rows
    omega
  refine ⟨⟨?_, ?_, fun j hj => ?_, ?_, fun q hq => ?_, ?_, fun e he => ?_⟩, ?_, fun e he => ?_⟩
  · have := sl w.cells; omega
  · have := sl w.jobs; omega
  · have h3 := sm hj
    have h4 : Ob.sz j = Ob.sz j.op + Ob.sz j.keys + Ob.sz j.raw := rfl
    have h5 := sl j.keys
    have h6 := sl j.raw
    omega
  · have := sl w.todo; omega
  · have h3 := sm hq
    have h4 : Ob.sz q = Ob.sz q.ops := rfl
    have h5 := sl q.ops
    omega
  · have := sl w.log; omega
  · have := lr e he; omega
  · have := sl w.log; omega
  · have := lr e he; omega
end Go.Proofs.YtipfnhfcoolhaaaGreat.Aw
end
section
namespace Go.Proofs.YtipfnhfcoolhaaaGreat.Aw
open Go Go.RowKit
set_option maxRecDepth 100000
set_option maxHeartbeats 1000000
theorem IndexFuncJob_ok (W0 : World) (a : AV) (xs : List JobD) (g : FuncId) (caps : List AV) (p : JobD → Bool) (H : AH) (ha : SlR W0 H a xs) (hp : ∀ cs x, Ob.rep W0 H cs x → ACalls Tryz.prog W0 g (.agg cs :: caps) H (fun v H' => v = .v (.bool (p x)) ∧ H' = H)) :
    ACalls Tryz.prog W0 248 [a, .fn g caps] H (fun v H' => v = .v (.int .i64 (firstIdx p xs)) ∧ H' = H) := by
  refine acallw Tryz.func248 rfl (by kernel_rfl) (by kernel_rfl) fun hc hw => ?_
  have hb := ha.2.1; simp only [big] at hb
  repeat' (first | simp -implicitDefEqProofs only [go_sem] | refine abi_len_sl' (by assumption) ?_ | fail)
  refine acode_while (fun i : Nat => [(0, a), (1, .fn g caps), (7, .v (.int .i64 xs.length)), (8, .v (.int .i64 i))]) (fun i H' => H' = H ∧ i ≤ xs.length ∧ NoneTo p xs i) (fun i => xs.length - i) 0 ⟨rfl, by omega, NoneTo.zero _ _⟩ ?_
  rintro i _ ⟨rfl, hi, hP⟩
  repeat' (first | simp -implicitDefEqProofs only [go_sem] | refine acond_dec (fun _ => ?_) (fun _ => ?_) | refine aixs_sln (by assumption) ?_ | (refine aK_slw (by assumption) (by omega) ?_; intro _ _) | simp -implicitDefEqProofs (disch := omega) only [wrap_in, u8_small, Int.tmod_eq_emod_of_nonneg, Int.tdiv_eq_ediv_of_nonneg] | refine ACallK.eq (hp _ _ (by assumption)) ?_ | refine acond_split (fun _ => ?_) (fun _ => ?_) | refine retK_eq ?_)
  · rw [idx_hit hP (by omega) (by assumption)]
  · exact back (i + 1) ⟨by omega, hP.succ (by omega) (by assumption)⟩
  · rw [idx_none hP (by omega)]
theorem IndexFuncQueue_ok (W0 : World) (a : AV) (xs : List QueueD) (g : FuncId) (caps : List AV) (p : QueueD → Bool) (H : AH) (ha : SlR W0 H a xs) (hp : ∀ cs x, Ob.rep W0 H cs x → ACalls Tryz.prog W0 g (.agg cs :: caps) H (fun v H' => v = .v (.bool (p x)) ∧ H' = H)) :
    ACalls Tryz.prog W0 249 [a, .fn g caps] H (fun v H' => v = .v (.int .i64 (firstIdx p xs)) ∧ H' = H) := by
  refine acallw Tryz.func249 rfl (by kernel_rfl) (by kernel_rfl) fun hc hw => ?_
  have hb := ha.2.1; simp only [big] at hb
  repeat' (first | simp -implicitDefEqProofs only [go_sem] | refine abi_len_sl' (by assumption) ?_ | fail)
  refine acode_while (fun i : Nat => [(0, a), (1, .fn g caps), (7, .v (.int .i64 xs.length)), (8, .v (.int .i64 i))]) (fun i H' => H' = H ∧ i ≤ xs.length ∧ NoneTo p xs i) (fun i => xs.length - i) 0 ⟨rfl, by omega, NoneTo.zero _ _⟩ ?_
  rintro i _ ⟨rfl, hi, hP⟩
  repeat' (first | simp -implicitDefEqProofs only [go_sem] | refine acond_dec (fun _ => ?_) (fun _ => ?_) | refine aixs_sln (by assumption) ?_ | (refine aK_slw (by assumption) (by omega) ?_; intro _ _) | simp -implicitDefEqProofs (disch := omega) only [wrap_in, u8_small, Int.tmod_eq_emod_of_nonneg, Int.tdiv_eq_ediv_of_nonneg] | refine ACallK.eq (hp _ _ (by assumption)) ?_ | refine acond_split (fun _ => ?_) (fun _ => ?_) | refine retK_eq ?_)
  · rw [idx_hit hP (by omega) (by assumption)]
  · exact back (i + 1) ⟨by omega, hP.succ (by omega) (by assumption)⟩
  · rw [idx_none hP (by omega)]
theorem ContainsJob_ok (W0 : World) (a : AV) (xs : List JobD) (g : FuncId) (caps : List AV) (p : JobD → Bool) (H : AH) (ha : SlR W0 H a xs) (hp : ∀ cs x, Ob.rep W0 H cs x → ACalls Tryz.prog W0 g (.agg cs :: caps) H (fun v H' => v = .v (.bool (p x)) ∧ H' = H)) :
    ACalls Tryz.prog W0 180 [a, .fn g caps] H (fun v H' => v = .v (.bool (xs.any p)) ∧ H' = H) := by
  refine acallw Tryz.func180 rfl (by kernel_rfl) (by kernel_rfl) fun hc hw => ?_
  repeat' (first | simp -implicitDefEqProofs only [go_sem] | refine ACallK.eq (IndexFuncJob_ok _ _ _ _ _ p _ ha hp) ?_ | refine retK_eq ?_)
  rw [firstIdx_anyS]
theorem ContainsQueue_ok (W0 : World) (a : AV) (xs : List QueueD) (g : FuncId) (caps : List AV) (p : QueueD → Bool) (H : AH) (ha : SlR W0 H a xs) (hp : ∀ cs x, Ob.rep W0 H cs x → ACalls Tryz.prog W0 g (.agg cs :: caps) H (fun v H' => v = .v (.bool (p x)) ∧ H' = H)) :
    ACalls Tryz.prog W0 182 [a, .fn g caps] H (fun v H' => v = .v (.bool (xs.any p)) ∧ H' = H) := by
  refine acallw Tryz.func182 rfl (by kernel_rfl) (by kernel_rfl) fun hc hw => ?_
  repeat' (first | simp -implicitDefEqProofs only [go_sem] | refine ACallK.eq (IndexFuncQueue_ok _ _ _ _ _ p _ ha hp) ?_ | refine retK_eq ?_)
  rw [firstIdx_anyS]
theorem Idle1_ok (W0 : World) (cs : List AV) (j : JobD) (H : AH) (hj : Ob.rep W0 H cs j) : ACalls Tryz.prog W0 181 [.agg cs] H (fun v H' => v = .v (.bool j.busy) ∧ H' = H) := by
  refine acallw Tryz.func181 rfl (by kernel_rfl) (by kernel_rfl) fun hc hw => ?_
  obtain ⟨v, u, rfl, hv, hu, hj1⟩ := JobD.out hj
  repeat' (first | simp -implicitDefEqProofs only [go_sem] | refine retK_back (by assumption) ?_ | fail)
theorem Idle2_ok (W0 : World) (cs : List AV) (q : QueueD) (H : AH) (hq : Ob.rep W0 H cs q) : ACalls Tryz.prog W0 183 [.agg cs] H (fun v H' => v = .v (.bool (decide (0 < (q.ops.length : Int)))) ∧ H' = H) := by
  refine acallw Tryz.func183 rfl (by kernel_rfl) (by kernel_rfl) fun hc hw => ?_
  obtain ⟨v, rfl, hv⟩ := hq
  repeat' (first | simp -implicitDefEqProofs only [go_sem] | refine abi_len_sl' (by assumption) ?_ | refine retK_back (by assumption) ?_ | fail)
theorem Idle_impl (W0 : World) (cs : List AV) (w : WorldD) (H : AH) (hw0 : Ob.rep W0 H cs w) : ACalls Tryz.prog W0 90 [.agg cs] H (fun v H' => v = .v (.bool (idle w)) ∧ H' = H) := by
  refine acallw Tryz.func90 rfl (by kernel_rfl) (by kernel_rfl) fun hc hw => ?_
  obtain ⟨vc, vj, vt, vl, rfl, h1, h2, h3, h4, h5, h6⟩ := hw0
  repeat' (first | simp -implicitDefEqProofs only [go_sem] | refine ACallK.eq (ContainsJob_ok _ _ w.jobs _ _ (fun j => j.busy) _ (h2.sub (by repeat (first | exact Sub.refl _ | assumption | refine Sub.new (by assumption) ?_ _ _ | refine Sub.kill_new (by assumption) ?_ _ _ | refine Sub.trans ?_ (by assumption)))) (fun cs x hx => Idle1_ok _ _ _ _ hx)) ?_ | refine ACallK.eq (ContainsQueue_ok _ _ w.todo _ _ (fun q => decide (0 < (q.ops.length : Int))) _ (h3.sub (by repeat (first | exact Sub.refl _ | assumption | refine Sub.new (by assumption) ?_ _ _ | refine Sub.kill_new (by assumption) ?_ _ _ | refine Sub.trans ?_ (by assumption)))) (fun cs x hx => Idle2_ok _ _ _ _ hx)) ?_ | refine agrd_bt (fun _ => ?_) (fun _ => ?_) | refine retK_back (by assumption) ?_ | fail)
  all_goals (refine bv ?_; rename_i h; unfold idle; rw [h]; simp)
theorem Idle_spec (W0 : World) (cs : List AV) (w : WorldD) (H : AH) (hw0 : Ob.rep W0 H cs w) : ACalls Tryz.prog W0 89 [.agg cs] H (fun v H' => v = .v (.bool (idle w)) ∧ H' = H) := by
  refine acallw Tryz.func89 rfl (by kernel_rfl) (by kernel_rfl) fun hc hw => ?_
  obtain ⟨vc, vj, vt, vl, rfl, h1, h2, h3, h4, h5, h6⟩ := hw0
  have b2 := h2.2.1; simp only [big] at b2
  have b3 := h3.2.1; simp only [big] at b3
  repeat' (first | simp -implicitDefEqProofs only [go_sem])
  refine acode_while (fun i : Nat => [(1, .ptr H.nxt 0), (3, .v (.int .i64 i))]) (fun i H' => H' = H.new [vc, vj, vt, vl, .v (.int .i64 w.serial), .v (.int .i64 w.now)] 6 ∧ i ≤ w.jobs.length ∧ NoneTo (fun j => j.busy) w.jobs i) (fun i => w.jobs.length - i) 0 ⟨rfl, by omega, NoneTo.zero _ _⟩ ?_
  rintro i _ ⟨rfl, hi, hP⟩
  repeat' (first | simp -implicitDefEqProofs only [go_sem] | refine acond_dec (fun _ => ?_) (fun _ => ?_) | refine abi_len_sl' (by assumption) ?_ | refine aixs_sln (by assumption) ?_ | refine afa_sl (by assumption) ?_ | (refine aK_sl (by assumption) (by omega) ?_; first | rintro _ ⟨rfl, _⟩ | (intro _ hx; obtain ⟨_, rfl, _, _⟩ := EvD.out hx) | (intro _ hx; obtain ⟨_, _, rfl, _, _, _⟩ := JobD.out hx) | rintro _ ⟨_, rfl, _⟩) | simp -implicitDefEqProofs (disch := omega) only [wrap_in, u8_small, Int.tmod_eq_emod_of_nonneg, Int.tdiv_eq_ediv_of_nonneg] | refine acond_split (fun _ => ?_) (fun _ => ?_) | refine retK_back (by assumption) ?_ | fail)
  · rw [idle, any_hit (p := fun j : JobD => j.busy) (xs := w.jobs) (i := i) (by omega) (by assumption)]; rfl
  · exact back (i + 1) ⟨by omega, hP.succ (by omega) (by assumption)⟩
  · have hn := any_none hP (by omega)
    refine acode_while (fun i : Nat => [(1, .ptr H.nxt 0), (4, .v (.int .i64 i))]) (fun i H' => H' = H.new [vc, vj, vt, vl, .v (.int .i64 w.serial), .v (.int .i64 w.now)] 6 ∧ i ≤ w.todo.length ∧ NoneTo (fun q => decide (0 < (q.ops.length : Int))) w.todo i) (fun i => w.todo.length - i) 0 ⟨rfl, by omega, NoneTo.zero _ _⟩ ?_
    rintro i _ ⟨rfl, hi, hQ⟩
    repeat' (first | simp -implicitDefEqProofs only [go_sem] | refine acond_dec (fun _ => ?_) (fun _ => ?_) | refine abi_len_sl' (by assumption) ?_ | refine aixs_sln (by assumption) ?_ | refine afa_sl (by assumption) ?_ | (refine aK_sl (by assumption) (by omega) ?_; first | rintro _ ⟨rfl, _⟩ | (intro _ hx; obtain ⟨_, rfl, _, _⟩ := EvD.out hx) | (intro _ hx; obtain ⟨_, _, rfl, _, _, _⟩ := JobD.out hx) | rintro _ ⟨_, rfl, _⟩) | simp -implicitDefEqProofs (disch := omega) only [wrap_in, u8_small, Int.tmod_eq_emod_of_nonneg, Int.tdiv_eq_ediv_of_nonneg] | refine retK_back (by assumption) ?_ | fail)
    · rw [idle, hn, any_hit (p := fun q : QueueD => decide (0 < (q.ops.length : Int))) (xs := w.todo) (i := i) (by omega) (decide_eq_true (by assumption))]; rfl
    · exact back (i + 1) ⟨by omega, hQ.succ (by omega) (decide_eq_false (by assumption))⟩
    · rw [idle, hn, any_none hQ (by omega)]; rfl
end Go.Proofs.YtipfnhfcoolhaaaGreat.Aw
end
section
namespace Go.Proofs.YtipfnhfcoolhaaaGreat.Aw
open Go Go.RowKit
set_option maxRecDepth 100000
set_option maxHeartbeats 2000000
@[go_sem] theorem lapp_nil {α : Type} (l : List α) : List.append [] l = l := rfl
@[go_sem] theorem lapp_cons {α : Type} (a : α) (l m : List α) : List.append (a :: l) m = a :: List.append l m := rfl
theorem EqualInt_ok (W0 : World) (a b : AV) (xs ys : List Int) (H : AH) (ha : SlR W0 H a xs) (hb : SlR W0 H b ys) : ACalls Tryz.prog W0 207 [a, b] H (fun v H' => v = .v (.bool (decide (xs = ys))) ∧ H' = H) := by
  refine acallw Tryz.func207 rfl (by kernel_rfl) (by kernel_rfl) fun hc hw => ?_
  have h1 := ha.2.1; simp only [big] at h1
  have h2 := hb.2.1; simp only [big] at h2
  repeat' (first | simp -implicitDefEqProofs only [go_sem] | refine acond_ndec (fun _ => ?_) (fun _ => ?_) | refine abi_len_sl' (by assumption) ?_ | refine retK_eq ?_)
  · rw [decide_eq_false (ne_len (by assumption))]
  · rename_i hl
    refine acode_while (fun i : Nat => [(0, a), (1, b), (12, .v (.int .i64 xs.length)), (13, .v (.int .i64 i))]) (fun i H' => H' = H ∧ i ≤ xs.length ∧ EqTo xs ys i) (fun i => xs.length - i) 0 ⟨rfl, by omega, EqTo.zero _ _⟩ ?_
    rintro i _ ⟨rfl, hi, hP⟩
    repeat' (first | simp -implicitDefEqProofs only [go_sem] | refine acond_dec (fun _ => ?_) (fun _ => ?_) | refine acond_ndec (fun _ => ?_) (fun _ => ?_) | refine aixs_sln (by assumption) ?_ | (refine aK_sl (by assumption) (by omega) ?_; first | rintro _ ⟨rfl, _⟩ | (intro _ hx; obtain ⟨_, rfl, _, _⟩ := EvD.out hx) | (intro _ hx; obtain ⟨_, _, rfl, _, _, _⟩ := JobD.out hx) | rintro _ ⟨_, rfl, _⟩) | simp -implicitDefEqProofs (disch := omega) only [wrap_in, u8_small, Int.tmod_eq_emod_of_nonneg, Int.tdiv_eq_ediv_of_nonneg] | ((with_reducible refine adraw_seq ?_ ?_ ?_); (· kernel_rfl); (· decide +kernel)) | refine retK_eq ?_)
    · rw [decide_eq_false (ne_at (i := i) (by omega) (by omega) (by assumption))]
    · exact back (i + 1) ⟨by omega, hP.succ (by omega) (by omega) (by assumption)⟩
    · rw [decide_eq_true (hP.done (by omega) (by omega))]
end Go.Proofs.YtipfnhfcoolhaaaGreat.Aw
end
section
namespace Go.Proofs.YtipfnhfcoolhaaaGreat.Aw
open Go Go.RowKit
set_option maxRecDepth 100000
set_option maxHeartbeats 4000000
theorem l10Zero_ok (W0 : World) (cs : List AV) (x : JobD) (H : AH) (hx : Ob.rep W0 H cs x) (hb : x.busy = false) : ACalls Tryz.prog W0 162 [.agg cs] H (fun v H' => v = .v (.bool (decide (x = job0))) ∧ H' = H) := by
  refine acallw Tryz.func162 rfl (by kernel_rfl) (by kernel_rfl) fun hc hw => ?_
  obtain ⟨v, u, rfl, hv, hu, hj⟩ := JobD.out hx
  repeat' (first | simp -implicitDefEqProofs only [go_sem] | refine agrd_dec (fun _ => ?_) (fun _ => ?_) | refine abi_len_sl' (by assumption) ?_ | (refine agg_eq (eqAt_Op ⟨_, _, _, _⟩ ⟨_, _, _, _⟩) ?_) | refine retK_back (by assumption) ?_ | fail)
  all_goals first
    | (refine bv ?_; rw [decide_eq_false]; rintro rfl; simp_all [job0, op0]; done)
    | (refine bv ?_
       simp only [decide_eq_true_eq]
       constructor
       · intro h
         have hr : x.raw = [] := List.eq_nil_of_length_eq_zero (by omega)
         have hk : x.keys = [] := List.eq_nil_of_length_eq_zero (by omega)
         exact JobD.ext_iff'.2 ⟨hb, by assumption, by assumption, by assumption, by assumption, by assumption, by assumption, by assumption, by assumption, by assumption, by assumption, by assumption, by assumption, hk, hr⟩
       · rintro rfl; rfl)
    | trace_state
end Go.Proofs.YtipfnhfcoolhaaaGreat.Aw
end
section
namespace Go.Proofs.YtipfnhfcoolhaaaGreat.Aw
open Go Go.RowKit
set_option maxRecDepth 100000
set_option maxHeartbeats 2000000
theorem sameJob_ok (W0 : World) (cs ds : List AV) (x y : JobD) (H : AH) (hx : Ob.rep W0 H cs x) (hy : Ob.rep W0 H ds y) : ACalls Tryz.prog W0 168 [.agg cs, .agg ds] H (fun v H' => v = .v (.bool (decide (x = y))) ∧ H' = H) := by
  refine acallw Tryz.func168 rfl (by kernel_rfl) (by kernel_rfl) fun hc hw => ?_
  obtain ⟨v, u, rfl, hv, hu, hj⟩ := JobD.out hx
  obtain ⟨v2, u2, rfl, hv2, hu2, hj2⟩ := JobD.out hy
  repeat' (first | simp -implicitDefEqProofs only [go_sem] | refine agrd_dec (fun _ => ?_) (fun _ => ?_) | refine ACallK.eq (EqualInt_ok _ _ _ x.keys y.keys _ (hv.sub (by repeat (first | exact Sub.refl _ | assumption | refine Sub.new (by assumption) ?_ _ _ | refine Sub.kill_new (by assumption) ?_ _ _ | refine Sub.trans ?_ (by assumption)))) (hv2.sub (by repeat (first | exact Sub.refl _ | assumption | refine Sub.new (by assumption) ?_ _ _ | refine Sub.kill_new (by assumption) ?_ _ _ | refine Sub.trans ?_ (by assumption))))) ?_ | refine ACallK.eq (EqualInt_ok _ _ _ x.raw y.raw _ (hu.sub (by repeat (first | exact Sub.refl _ | assumption | refine Sub.new (by assumption) ?_ _ _ | refine Sub.kill_new (by assumption) ?_ _ _ | refine Sub.trans ?_ (by assumption)))) (hu2.sub (by repeat (first | exact Sub.refl _ | assumption | refine Sub.new (by assumption) ?_ _ _ | refine Sub.kill_new (by assumption) ?_ _ _ | refine Sub.trans ?_ (by assumption))))) ?_ | (refine agg_eq (eqAt_Op ⟨_, _, _, _⟩ ⟨_, _, _, _⟩) ?_) | refine retK_back (by assumption) ?_ | fail)
  all_goals first
    | (refine bv ?_; rw [decide_eq_false]; rintro rfl; contradiction)
    | (refine bv ?_; simp only [decide_eq_true_eq]; exact ⟨fun h => JobD.ext_iff'.2 ⟨by assumption, by assumption, by assumption, by assumption, by assumption, by assumption, by assumption, by assumption, by assumption, by assumption, by assumption, by assumption, by assumption, by assumption, h⟩, fun h => by rw [h]⟩)
    | trace_state
end Go.Proofs.YtipfnhfcoolhaaaGreat.Aw
end
section
namespace Go.Proofs.YtipfnhfcoolhaaaGreat.Aw
open Go Go.RowKit
set_option maxRecDepth 100000
set_option maxHeartbeats 10000000
theorem jobOk_iff (j : JobD) : jobOk j = true ↔ opOk j.op = true ∧ placeOk j.op.kind j.pc ∧ countOk j ∧ ((0 ≤ j.slot ∧ j.slot ≤ 3) ∧ (0 ≤ j.what ∧ j.what ≤ 3) ∧ (0 ≤ j.e ∧ j.e ≤ 281474976710655) ∧ (0 ≤ j.k ∧ j.k ≤ 32) ∧ (j.keys.length : Int) ≤ 4 ∧ (j.raw.length : Int) ≤ 32) := by
  simp [jobOk, and_assoc]
theorem JobOk_impl (W0 : World) (cs : List AV) (j : JobD) (H : AH) (hj : Ob.rep W0 H cs j) : ACalls Tryz.prog W0 169 [.agg cs] H (fun v H' => v = .v (.bool (jobOk j)) ∧ H' = H) := by
  refine acallw Tryz.func169 rfl (by kernel_rfl) (by kernel_rfl) fun hc hw => ?_
  obtain ⟨v, u, rfl, hv, hu, hj1⟩ := JobD.out hj
  have hk := @opOk_kind j.op
  repeat' (first | simp -implicitDefEqProofs only [go_sem] | refine acond_dec (fun _ => ?_) (fun _ => ?_) | refine agrd_dec (fun _ => ?_) (fun _ => ?_) | refine agrd_decf (fun _ => ?_) (fun _ => ?_) | refine agrd_ndecf (fun _ => ?_) (fun _ => ?_) | refine abi_len_sl' (by assumption) ?_ | refine ACallK.eq (OpOk_impl _ _ j.op _ ⟨rfl, by simp only [hj1, and_self]⟩) ?_ | refine ACallK.eq (pcOk_ok _ _ _ _) ?_ | refine ACallK.eq (within_ok _ _ _ _ _) ?_ | refine ACallK.eq (isWord_ok _ _ _) ?_ | refine agrd_bf (fun _ => ?_) (fun _ => ?_) | refine retK_back (by assumption) ?_ | fail)
  all_goals
    refine bv ?_
    rw [jobOk_iff]
    first
      | (simp only [Bool.false_eq_true, false_iff]; rintro ⟨h1, h2, h3, h4⟩; rcases hk h1 with hk | hk | hk <;> simp only [placeOk, countOk, hk] at * <;> (first | (simp_all; done) | (simp_all; omega)))
      | (have h1 : opOk j.op = true := by simp_all
         rcases hk h1 with hk | hk | hk <;> simp only [placeOk, countOk, hk] at * <;> (first | (simp_all; done) | (simp_all; omega)))
end Go.Proofs.YtipfnhfcoolhaaaGreat.Aw
end
section
namespace Go.Proofs.YtipfnhfcoolhaaaGreat.Aw
open Go Go.RowKit
set_option maxRecDepth 100000
set_option maxHeartbeats 4000000
def JobsTo (l : List JobD) (i : Nat) : Prop := ∀ (t : Nat) (h : t < l.length), t < i → jobAt t l[t] = true
theorem JobsTo.succ {l : List JobD} {i : Nat} (h : JobsTo l i) (hi : i < l.length) (hp : jobAt i l[i] = true) : JobsTo l (i + 1) := fun t ht hl => by
  rcases Nat.lt_succ_iff_lt_or_eq.1 hl with hl | rfl
  · exact h t ht hl
  · exact hp
theorem WorldOk_spec (W0 : World) (cs : List AV) (w : WorldD) (H : AH) (hw0 : Ob.rep W0 H cs w) : ACalls Tryz.prog W0 81 [.agg cs] H (fun v H' => v = .v (.bool (worldOk w)) ∧ H' = H) := by
  refine acallw Tryz.func81 rfl (by kernel_rfl) (by kernel_rfl) fun hc hw => ?_
  obtain ⟨vc, vj, vt, vl, rfl, h1, h2, h3, h4, h5, h6⟩ := hw0
  by_cases hp : cellsOk w.cells = true ∧ todoOk w.todo = true ∧ (0 ≤ w.serial ∧ w.serial ≤ 1000000) ∧ (0 ≤ w.now ∧ w.now ≤ 1000000000) ∧ w.jobs.length = 4
  · obtain ⟨p1, p2, p3, p4, p5⟩ := hp
    repeat' (first | simp -implicitDefEqProofs only [go_sem] | refine ACallK.eq (CellsOk_spec _ _ w.cells _ (SlR.sub' h1)) ?_ | refine ACallK.eq (TodoOk_spec _ _ w.todo _ (SlR.sub' h3)) ?_ | refine ACallK.eq (l1In_ok _ _ _ _ _) ?_ | (rw [p1]) | (rw [p2]) | refine acond_ndecT (by omega) ?_ | refine agrd_ndecf (fun _ => ?_) (fun _ => ?_) | refine abi_len_sl' (by assumption) ?_ | refine retK_back (by assumption) ?_ | fail)
    all_goals (try (exfalso; omega))
    refine acode_while (fun i : Nat => [(1, .ptr H.nxt 0), (3, .v (.int .i64 i))]) (fun i H' => Sub (H.new [vc, vj, vt, vl, .v (.int .i64 w.serial), .v (.int .i64 w.now)] 6) H' ∧ i ≤ 4 ∧ JobsTo w.jobs i) (fun i => 4 - i) 0 ⟨Sub.refl _, by omega, fun _ _ h => by omega⟩ ?_
    rintro i H' ⟨hs, hi, hP⟩
    have hw2 : (H.new [vc, vj, vt, vl, .v (.int .i64 w.serial), .v (.int .i64 w.now)] 6).wf := hw.new _ _
    have hblk : H'.blk H.nxt = some ⟨[vc, vj, vt, vl, .v (.int .i64 w.serial), .v (.int .i64 w.now)], 6⟩ := hs.2 _ _ (by simp only [go_sem])
    have hnx : H.nxt + 1 ≤ H'.nxt := hs.1
    rcases Nat.lt_or_ge i 4 with hlt | hge
    · have hi5 : i < w.jobs.length := by omega
      repeat' (first | simp -implicitDefEqProofs only [go_sem] | refine acond_dec (fun _ => ?_) (fun _ => ?_) | refine acond_ndec (fun _ => ?_) (fun _ => ?_) | refine agrd_ndecf (fun _ => ?_) (fun _ => ?_) | refine aixs_sln (by assumption) ?_ | (refine aK_sl (by assumption) (by omega) ?_; first | rintro _ ⟨rfl, _⟩ | (intro _ hx; obtain ⟨_, rfl, _, _⟩ := EvD.out hx) | (intro _ hx; obtain ⟨_, _, rfl, _, _, _⟩ := JobD.out hx) | rintro _ ⟨_, rfl, _⟩) | rw [SlR.leaf (by assumption)] | simp -implicitDefEqProofs (disch := omega) only [wrap_in, u8_small, Int.tmod_eq_emod_of_nonneg, Int.tdiv_eq_ediv_of_nonneg] | refine aK_sub (by assumption) ?_ | refine ACallK.eq (JobOk_spec _ _ w.jobs[i] _ (Ob.sub' (by assumption))) ?_ | refine ACallK.eq (l10Zero_ok _ _ w.jobs[i] _ (Ob.sub' (by assumption)) (by first | assumption | (simp_all; done))) ?_ | refine agrd_bt (fun _ => ?_) (fun _ => ?_) | refine agrd_bf (fun _ => ?_) (fun _ => ?_) | refine retK_back (by assumption) ?_ | fail)
      all_goals first
        | (exfalso; omega)
        | (exfalso; simp_all; done)
        | (exact back (i + 1) ⟨by repeat (first | exact Sub.refl _ | assumption | refine Sub.new (by assumption) ?_ _ _ | refine Sub.kill_new (by assumption) ?_ _ _ | refine Sub.trans ?_ (by assumption)), by omega, hP.succ hi5 (by simp only [jobAt]; simp_all)⟩)
        | (exact back (i + 1) ⟨by repeat (first | exact Sub.refl _ | assumption | refine Sub.new (by assumption) ?_ _ _ | refine Sub.kill_new (by assumption) ?_ _ _ | refine Sub.trans ?_ (by assumption)), by omega, hP.succ hi5 (by simp only [jobAt]; simp_all)⟩ (by omega))
        | (rw [worldOk_bad hi5 (by simp only [jobAt]; simp_all)]; done)
        | trace_state
    · repeat' (first | simp -implicitDefEqProofs only [go_sem] | refine acond_decF (by omega) ?_ | refine retK_back (by assumption) ?_ | fail)
      all_goals (rw [worldOk_iff.2 ⟨p1, p2, p3, p4, p5, fun t ht => hP t ht (by omega)⟩])
  · rw [worldOk_pre hp]
    repeat' (first | simp -implicitDefEqProofs only [go_sem] | refine acond_ndec (fun _ => ?_) (fun _ => ?_) | refine agrd_ndecf (fun _ => ?_) (fun _ => ?_) | refine abi_len_sl' (by assumption) ?_ | refine ACallK.eq (CellsOk_spec _ _ w.cells _ (SlR.sub' h1)) ?_ | refine ACallK.eq (TodoOk_spec _ _ w.todo _ (SlR.sub' h3)) ?_ | refine ACallK.eq (l1In_ok _ _ _ _ _) ?_ | refine agrd_bf (fun _ => ?_) (fun _ => ?_) | refine retK_back (by assumption) ?_ | fail)
    all_goals (exact absurd ⟨by simp_all, by simp_all, by first | assumption | omega, by first | assumption | omega, by omega⟩ hp)
end Go.Proofs.YtipfnhfcoolhaaaGreat.Aw
end
section
namespace Go.Proofs.YtipfnhfcoolhaaaGreat.Aw
open Go Go.RowKit
set_option maxRecDepth 100000
set_option maxHeartbeats 4000000
theorem job0_rep (W0 : World) (H : AH) : Ob.rep W0 H [.v (.bool false), .v (.int .i64 0), .v (.string ⟨#[]⟩), .v (.int .i64 0), .v (.int .i64 0), .v (.int .i64 0), .v (.int .i64 0), .v (.int .i64 0), .v (.int .i64 0), .v (.int .i64 0), .v (.int .i64 0), .v (.int .i64 0), .v (.int .i64 0), .v (.int .i64 0), .v (.int .i64 0), .v (.int .i64 0), .v (.slice none 0 0), .v (.slice none 0 0)] job0 := by
  have hn : ∀ (α : Type) [Ob α], SlR W0 H (.v (.slice none 0 0)) ([] : List α) := fun α _ => ⟨rfl, by simp [big], [], by simp [slCells], .nil⟩
  refine ⟨_, _, rfl, ?_, ?_, ?_, ?_, ?_, ?_, ?_, ?_, ?_, ?_, ?_, ?_, ?_, ?_, ?_, hn _, hn _⟩ <;> first | (simp [job0, op0, inI64, big]; done) | exact Nat.zero_le _
theorem WorldOk_impl (W0 : World) (cs : List AV) (w : WorldD) (H : AH) (hw0 : Ob.rep W0 H cs w) : ACalls Tryz.prog W0 85 [.agg cs] H (fun v H' => v = .v (.bool (worldOk w)) ∧ H' = H) := by
  refine acallw Tryz.func85 rfl (by kernel_rfl) (by kernel_rfl) fun hc hw => ?_
  obtain ⟨vc, vj, vt, vl, rfl, h1, h2, h3, h4, h5, h6⟩ := hw0
  by_cases hp : cellsOk w.cells = true ∧ todoOk w.todo = true ∧ (0 ≤ w.serial ∧ w.serial ≤ 1000000) ∧ (0 ≤ w.now ∧ w.now ≤ 1000000000) ∧ w.jobs.length = 4
  · obtain ⟨p1, p2, p3, p4, p5⟩ := hp
    repeat' (first | simp -implicitDefEqProofs only [go_sem] | refine ACallK.eq (CellsOk_impl _ _ w.cells _ (SlR.sub' h1)) ?_ | refine ACallK.eq (TodoOk_impl _ _ w.todo _ (SlR.sub' h3)) ?_ | refine ACallK.eq (within_ok _ _ _ _ _) ?_ | (rw [p1]) | (rw [p2]) | refine acond_ndecT (by omega) ?_ | refine agrd_ndecf (fun _ => ?_) (fun _ => ?_) | refine abi_len_sl' (by assumption) ?_ | refine retK_back (by assumption) ?_ | fail)
    all_goals (try (exfalso; omega))
    refine acode_while (fun i : Nat => [(1, .ptr H.nxt 0), (34, vj), (35, .v (.int .i64 w.jobs.length)), (36, .v (.int .i64 i))]) (fun i H' => Sub (H.new [vc, vj, vt, vl, .v (.int .i64 w.serial), .v (.int .i64 w.now)] 6) H' ∧ i ≤ 4 ∧ JobsTo w.jobs i) (fun i => 4 - i) 0 ⟨Sub.refl _, by omega, fun _ _ h => by omega⟩ ?_
    rintro i H' ⟨hs, hi, hP⟩
    have hw2 : (H.new [vc, vj, vt, vl, .v (.int .i64 w.serial), .v (.int .i64 w.now)] 6).wf := hw.new _ _
    have hblk : H'.blk H.nxt = some ⟨[vc, vj, vt, vl, .v (.int .i64 w.serial), .v (.int .i64 w.now)], 6⟩ := hs.2 _ _ (by simp only [go_sem])
    have hnx : H.nxt + 1 ≤ H'.nxt := hs.1
    rcases Nat.lt_or_ge i 4 with hlt | hge
    · have hi5 : i < w.jobs.length := by omega
      repeat' (first | simp -implicitDefEqProofs only [go_sem] | refine acond_dec (fun _ => ?_) (fun _ => ?_) | refine acond_ndec (fun _ => ?_) (fun _ => ?_) | refine aixs_sln (by assumption) ?_ | (refine aK_sl (by assumption) (by omega) ?_; first | rintro _ ⟨rfl, _⟩ | (intro _ hx; obtain ⟨_, rfl, _, _⟩ := EvD.out hx) | (intro _ hx; obtain ⟨_, _, rfl, _, _, _⟩ := JobD.out hx) | rintro _ ⟨_, rfl, _⟩) | rw [SlR.leaf (by assumption)] | simp -implicitDefEqProofs (disch := omega) only [wrap_in, u8_small, Int.tmod_eq_emod_of_nonneg, Int.tdiv_eq_ediv_of_nonneg] | refine ACallK.eq (JobOk_impl _ _ w.jobs[i] _ (Ob.sub' (by assumption))) ?_ | refine ACallK.eq (sameJob_ok _ _ _ w.jobs[i] job0 _ (Ob.sub' (by assumption)) (job0_rep _ _)) ?_ | refine acond_split (fun _ => ?_) (fun _ => ?_) | refine agrd_bf (fun _ => ?_) (fun _ => ?_) | refine retK_back (by assumption) ?_ | fail)
      all_goals first
        | (exfalso; omega)
        | (exfalso; simp_all; done)
        | (exact back (i + 1) ⟨by repeat (first | exact Sub.refl _ | assumption | refine Sub.new (by assumption) ?_ _ _ | refine Sub.kill_new (by assumption) ?_ _ _ | refine Sub.trans ?_ (by assumption)), by omega, hP.succ hi5 (by simp only [jobAt]; simp_all)⟩)
        | (exact back (i + 1) ⟨by repeat (first | exact Sub.refl _ | assumption | refine Sub.new (by assumption) ?_ _ _ | refine Sub.kill_new (by assumption) ?_ _ _ | refine Sub.trans ?_ (by assumption)), by omega, hP.succ hi5 (by simp only [jobAt]; simp_all)⟩ (by omega))
        | (rw [worldOk_bad hi5 (by simp only [jobAt]; simp_all)]; done)
        | trace_state
    · repeat' (first | simp -implicitDefEqProofs only [go_sem] | refine acond_decF (by omega) ?_ | refine retK_back (by assumption) ?_ | fail)
      all_goals (rw [worldOk_iff.2 ⟨p1, p2, p3, p4, p5, fun t ht => hP t ht (by omega)⟩])
  · rw [worldOk_pre hp]
    repeat' (first | simp -implicitDefEqProofs only [go_sem] | refine acond_ndec (fun _ => ?_) (fun _ => ?_) | refine agrd_ndecf (fun _ => ?_) (fun _ => ?_) | refine abi_len_sl' (by assumption) ?_ | refine ACallK.eq (CellsOk_impl _ _ w.cells _ (SlR.sub' h1)) ?_ | refine ACallK.eq (TodoOk_impl _ _ w.todo _ (SlR.sub' h3)) ?_ | refine ACallK.eq (within_ok _ _ _ _ _) ?_ | refine agrd_bf (fun _ => ?_) (fun _ => ?_) | refine retK_back (by assumption) ?_ | fail)
    all_goals (exact absurd ⟨by simp_all, by simp_all, by first | assumption | omega, by first | assumption | omega, by omega⟩ hp)
end Go.Proofs.YtipfnhfcoolhaaaGreat.Aw
end
