/- Parts of a proof: L6Play. -/
import Derived.Test.YtipfnhfcoolhaaaGreatK30
import Derived.Test.YtipfnhfcoolhaaaGreatK24
import Derived.Test.YtipfnhfcoolhaaaGreatK02
import Derived.Test.YtipfnhfcoolhaaaGreatK20
set_option linter.unusedVariables false
set_option linter.unusedSimpArgs false
namespace Go.Proofs.YtipfnhfcoolhaaaGreat.Aw
open Go Go.RowKit
set_option maxRecDepth 100000
set_option maxHeartbeats 2000000
attribute [-go_sem] wr_eq
theorem ExactPlay_law (W0 : World) (c_sc : List AV) (sc : ScriptD) (H : AH) (hsc : Ob.rep W0 H c_sc sc) : ACalls Tryz.prog W0 4 [.agg c_sc] H (fun v _ => v = .v (.bool true)) := by
  refine acallw Tryz.func4 rfl (by kernel_rfl) (by kernel_rfl) fun hc hw => ?_
  have hx_sc := hsc; obtain ⟨w1, w2, rfl, _, _⟩ := hx_sc
  repeat' (first | simp -implicitDefEqProofs only [go_sem] | (exact retK_one rfl) | (refine ACallK.szk (szScript_ok _ _ sc _ _ (Ob.sub' (by assumption)) (by omega) (by omega)) (fun _ => ?_) (fun _ => ?_)) | refine acond_decF (by omega) ?_ | fail)
  have hz_sc : Ob.sz sc ≤ 1048576 := by omega
  have take_n : ∀ {l : List AV} {n : Nat}, l.length = n → l.take n = l := fun h => List.take_of_length_le (by omega)
  obtain ⟨G, hG⟩ : ∃ G, G = H.new [w1, w2] 2 := ⟨_, rfl⟩
  rw [← hG]
  have hB0 : G.blk H.nxt = some ⟨[w1, w2], 2⟩ := by rw [hG]; exact blk_new_self _ _ _
  have hwG : G.wf := by rw [hG]; exact hw.new _ _
  have hsc := Ob.sub (show Sub H G by rw [hG]; exact (Sub.refl _).new hw _ _) hsc
  clear hG
  have z0 : Sub G G := Sub.refl _
  refine ACallK.of (toScript_new _ _ sc _ (Ob.sub z0 hsc) hz_sc).cl ?_
  rintro _ H1 ⟨⟨s1, S1, u1, rfl, o1, f1⟩, k1⟩
  have e1 : G.nxt ≤ H1.nxt := s1.1
  have z1 : Sub G H1 := z0.trans s1
  have bx := z1.2 _ _ hB0
  have l1 : ∀ b ∈ S1, b < H1.nxt := fun b hb => k1.1.lt' (Own.isin o1 b hb)
  repeat' (first | simp -implicitDefEqProofs only [go_sem])
  refine ACallK.of (Play_spec _ u1 sc _ (Own.rep o1)).cl ?_
  rintro _ H2 ⟨⟨s2, S2, u2, rfl, o2, f2⟩, k2⟩
  have e2 : H1.nxt ≤ H2.nxt := s2.1
  have z2 : Sub G H2 := z1.trans s2
  have o1 := Own.sub o1 s2
  have bx := z2.2 _ _ hB0
  have l2 : ∀ b ∈ S2, b < H2.nxt := fun b hb => k2.1.lt' (Own.isin o2 b hb)
  have n2 : u2.length = 6 := Ob.len (Own.rep (W0 := W0) o2)
  have lf2 : u2.all leafA = true := Ob.leaf (Own.rep (W0 := W0) o2)
  have nbx : ¬ H.nxt = H2.nxt := fun h => by have h2 := k2.1.lt bx; rw [h] at h2; exact absurd h2 (Nat.lt_irrefl _)
  repeat' (first | simp -implicitDefEqProofs only [go_sem] | (with_reducible refine And.intro n2 ?_) | (with_reducible refine And.intro lf2 ?_) | (rw [wr_all _ _ (by rw [n2]; rfl)]) | (simp -implicitDefEqProofs only [bx, nbx, take_n n2, n2, if_false, List.drop_zero, Nat.le_refl]))
  obtain ⟨H3, hH3⟩ : ∃ X, X = H2.new u2 6 := ⟨_, rfl⟩
  rw [← hH3]
  have k3 : H3.wf ∧ True := ⟨by rw [hH3]; exact k2.1.new _ _, trivial⟩
  have s3 : Sub H2 H3 := by rw [hH3]; exact (Sub.refl _).new k2.1 _ _
  have xb2 : H3.blk H2.nxt = some ⟨u2, 6⟩ := by rw [hH3]; exact blk_new_self _ _ _
  have hlt3 : H2.nxt < H3.nxt := by rw [hH3]; exact Nat.lt_succ_self _
  clear hH3
  have e3 : H2.nxt ≤ H3.nxt := s3.1
  have z3 : Sub G H3 := z2.trans s3
  have o2 := Own.sub o2 s3
  have bx := z3.2 _ _ hB0
  skip
  refine ACallK.of (toScript_new _ _ sc _ (Ob.sub z3 hsc) hz_sc).cl ?_
  rintro _ H4 ⟨⟨s4, S4, u4, rfl, o4, f4⟩, k4⟩
  have e4 : H3.nxt ≤ H4.nxt := s4.1
  have z4 : Sub G H4 := z3.trans s4
  have o2 := Own.sub o2 s4
  have xb2 := s4.2 _ _ xb2
  have bx := z4.2 _ _ hB0
  have l4 : ∀ b ∈ S4, b < H4.nxt := fun b hb => k4.1.lt' (Own.isin o4 b hb)
  have n4 : u4.length = 2 := Ob.len (Own.rep (W0 := W0) o4)
  have lf4 : u4.all leafA = true := Ob.leaf (Own.rep (W0 := W0) o4)
  have nbx : ¬ H.nxt = H4.nxt := fun h => by have h2 := k4.1.lt bx; rw [h] at h2; exact absurd h2 (Nat.lt_irrefl _)
  have nxb2 : ¬ H2.nxt = H4.nxt := fun h => by have h2 := k4.1.lt xb2; rw [h] at h2; exact absurd h2 (Nat.lt_irrefl _)
  repeat' (first | simp -implicitDefEqProofs only [go_sem] | (with_reducible refine And.intro n4 ?_) | (with_reducible refine And.intro lf4 ?_) | (rw [wr_all _ _ (by rw [n4]; rfl)]) | (simp -implicitDefEqProofs only [bx, xb2, nbx, nxb2, take_n n2, n2, take_n n4, n4, if_false, List.drop_zero, Nat.le_refl]))
  obtain ⟨H5, hH5⟩ : ∃ X, X = H4.new u4 2 := ⟨_, rfl⟩
  rw [← hH5]
  have k5 : H5.wf ∧ True := ⟨by rw [hH5]; exact k4.1.new _ _, trivial⟩
  have s5 : Sub H4 H5 := by rw [hH5]; exact (Sub.refl _).new k4.1 _ _
  have xb4 : H5.blk H4.nxt = some ⟨u4, 2⟩ := by rw [hH5]; exact blk_new_self _ _ _
  have hlt5 : H4.nxt < H5.nxt := by rw [hH5]; exact Nat.lt_succ_self _
  clear hH5
  have e5 : H4.nxt ≤ H5.nxt := s5.1
  have z5 : Sub G H5 := z4.trans s5
  have o2 := Own.sub o2 s5
  have o4 := Own.sub o4 s5
  have xb2 := s5.2 _ _ xb2
  have bx := z5.2 _ _ hB0
  skip
  refine ACallK.of (Play_impl _ u4 sc _ (Own.rep o4)).cl ?_
  rintro _ H6 ⟨⟨s6, S6, u6, rfl, o6, f6⟩, k6⟩
  have e6 : H5.nxt ≤ H6.nxt := s6.1
  have z6 : Sub G H6 := z5.trans s6
  have o2 := Own.sub o2 s6
  have o4 := Own.sub o4 s6
  have xb2 := s6.2 _ _ xb2
  have xb4 := s6.2 _ _ xb4
  have bx := z6.2 _ _ hB0
  have l6 : ∀ b ∈ S6, b < H6.nxt := fun b hb => k6.1.lt' (Own.isin o6 b hb)
  have n6 : u6.length = 6 := Ob.len (Own.rep (W0 := W0) o6)
  have lf6 : u6.all leafA = true := Ob.leaf (Own.rep (W0 := W0) o6)
  have nbx : ¬ H.nxt = H6.nxt := fun h => by have h2 := k6.1.lt bx; rw [h] at h2; exact absurd h2 (Nat.lt_irrefl _)
  have nxb2 : ¬ H2.nxt = H6.nxt := fun h => by have h2 := k6.1.lt xb2; rw [h] at h2; exact absurd h2 (Nat.lt_irrefl _)
  have nxb4 : ¬ H4.nxt = H6.nxt := fun h => by have h2 := k6.1.lt xb4; rw [h] at h2; exact absurd h2 (Nat.lt_irrefl _)
  repeat' (first | simp -implicitDefEqProofs only [go_sem] | (with_reducible refine And.intro n6 ?_) | (with_reducible refine And.intro lf6 ?_) | (rw [wr_all _ _ (by rw [n6]; rfl)]) | (simp -implicitDefEqProofs only [bx, xb2, xb4, nbx, nxb2, nxb4, take_n n2, n2, take_n n4, n4, take_n n6, n6, if_false, List.drop_zero, Nat.le_refl]))
  obtain ⟨H7, hH7⟩ : ∃ X, X = H6.new u6 6 := ⟨_, rfl⟩
  rw [← hH7]
  have k7 : H7.wf ∧ True := ⟨by rw [hH7]; exact k6.1.new _ _, trivial⟩
  have s7 : Sub H6 H7 := by rw [hH7]; exact (Sub.refl _).new k6.1 _ _
  have xb6 : H7.blk H6.nxt = some ⟨u6, 6⟩ := by rw [hH7]; exact blk_new_self _ _ _
  have hlt7 : H6.nxt < H7.nxt := by rw [hH7]; exact Nat.lt_succ_self _
  clear hH7
  have e7 : H6.nxt ≤ H7.nxt := s7.1
  have z7 : Sub G H7 := z6.trans s7
  have o2 := Own.sub o2 s7
  have o4 := Own.sub o4 s7
  have o6 := Own.sub o6 s7
  have xb2 := s7.2 _ _ xb2
  have xb4 := s7.2 _ _ xb4
  have bx := z7.2 _ _ hB0
  skip
  refine ACallK.eq (eqWorld_ok _ u6 u2 (playD sc) (playD sc) _ (Own.rep o6) (Own.rep o2)) ?_
  rw [decide_eq_true rfl]
  repeat' (first | simp -implicitDefEqProofs only [go_sem] | (simp -implicitDefEqProofs only [bx, xb2, take_n n2, n2, xb4, take_n n4, n4, xb6, take_n n6, n6, List.drop_zero, Nat.le_refl]) | ((with_reducible refine adraw_plan [(0, []), (1, []), (2, [0]), (3, []), (4, [])] ?_ ?_ ?_); (· kernel_rfl); (· decide +kernel)))
  refine ACallK.of (toScript_new _ _ sc _ (Ob.sub z7 hsc) hz_sc).cl ?_
  rintro _ H8 ⟨⟨s8, S8, u8, rfl, o8, f8⟩, k8⟩
  have e8 : H7.nxt ≤ H8.nxt := s8.1
  have z8 : Sub G H8 := z7.trans s8
  have o2 := Own.sub o2 s8
  have o4 := Own.sub o4 s8
  have o6 := Own.sub o6 s8
  have xb2 := s8.2 _ _ xb2
  have xb4 := s8.2 _ _ xb4
  have xb6 := s8.2 _ _ xb6
  have bx := z8.2 _ _ hB0
  have l8 : ∀ b ∈ S8, b < H8.nxt := fun b hb => k8.1.lt' (Own.isin o8 b hb)
  repeat' (first | simp -implicitDefEqProofs only [go_sem] | (simp -implicitDefEqProofs only [bx, xb2, take_n n2, n2, xb4, take_n n4, n4, xb6, take_n n6, n6, List.drop_zero, Nat.le_refl]))
  refine ACallK.eq (eqScript_ok _ u4 u8 (sc) (sc) _ (Own.rep o4) (Own.rep o8)) ?_
  rw [decide_eq_true rfl]
  repeat' (first | simp -implicitDefEqProofs only [go_sem] | (simp -implicitDefEqProofs only [bx, xb2, take_n n2, n2, xb4, take_n n4, n4, xb6, take_n n6, n6, List.drop_zero, Nat.le_refl]))
  have cb_sc : (Mk.cnt (sc) : Int) ≤ 1000000000000 := by have := cnt_le_V (x := sc) hz_sc; omega
  refine ACallK.of (markScript_ok _ u4 (sc) 1 S4 _ o4 f4.1 (by omega) (by omega)).cl ?_
  rintro _ H9 ⟨⟨rfl, g9, o4'⟩, k9⟩
  have e9 : H8.nxt ≤ H9.nxt := g9.1
  have z9 : Sub G H9 := (g9.sub hwG z8 (fun b hb => by have := f4.2 b hb; omega)).1
  have xb2 := g9.2.1 _ _ (fun hm => by have := f4.2 _ hm; omega) xb2
  have xb4 := g9.2.1 _ _ (fun hm => by have := l4 _ hm; omega) xb4
  have xb6 := g9.2.1 _ _ (fun hm => by have := l4 _ hm; omega) xb6
  have bx := z9.2 _ _ hB0
  have o2 := g9.ownV o2 (fun b hb hc => by have h1 := l2 b hb; have h2 := l4 b hc; have h3 := f2.2 b hb; have h4 := f4.2 b hc; omega)
  have o4 := o4'
  have o6 := g9.ownV o6 (fun b hb hc => by have h1 := l6 b hb; have h2 := l4 b hc; have h3 := f6.2 b hb; have h4 := f4.2 b hc; omega)
  repeat' (first | simp -implicitDefEqProofs only [go_sem] | (simp -implicitDefEqProofs only [bx, xb2, take_n n2, n2, xb4, take_n n4, n4, xb6, take_n n6, n6, List.drop_zero, Nat.le_refl]) | refine agrd_decf (fun _ => ?_) (fun _ => ?_))
  all_goals first | (exfalso; omega) | skip
  refine ACallK.eq (eqWorld_ok _ u6 u2 (playD sc) (playD sc) _ (Own.rep o6) (Own.rep o2)) ?_
  rw [decide_eq_true rfl]
  repeat' (first | simp -implicitDefEqProofs only [go_sem] | (simp -implicitDefEqProofs only [bx, xb2, take_n n2, n2, xb6, take_n n6, n6, List.drop_zero, Nat.le_refl]))
  have cg0 : (Mk.cnt (playD sc) : Int) ≤ 1000000000000 := by have := cnt_play sc; omega
  refine ACallK.of (markWorld_ok _ u6 (playD sc) 1 S6 _ o6 f6.1 (by omega) (by omega)).cl ?_
  rintro _ H10 ⟨⟨rfl, g10, o6'⟩, k10⟩
  have e10 : H9.nxt ≤ H10.nxt := g10.1
  have z10 : Sub G H10 := (g10.sub hwG z9 (fun b hb => by have := f6.2 b hb; omega)).1
  have xb2 := g10.2.1 _ _ (fun hm => by have := f6.2 _ hm; omega) xb2
  have xb6 := g10.2.1 _ _ (fun hm => by have := l6 _ hm; omega) xb6
  have bx := z10.2 _ _ hB0
  have o2 := g10.ownV o2 (fun b hb hc => by have h1 := l2 b hb; have h2 := l6 b hc; have h3 := f2.2 b hb; have h4 := f6.2 b hc; omega)
  have o6 := o6'
  repeat' (first | simp -implicitDefEqProofs only [go_sem] | (simp -implicitDefEqProofs only [bx, xb2, take_n n2, n2, xb6, take_n n6, n6, List.drop_zero, Nat.le_refl]))
  refine ACallK.eq (heldWorld_ok _ u6 (playD sc) 1 _ (Own.rep o6) (by omega) (by omega)) ?_
  repeat' (first | simp -implicitDefEqProofs only [go_sem] | (simp -implicitDefEqProofs only [bx, xb2, take_n n2, n2, xb6, take_n n6, n6, List.drop_zero, Nat.le_refl]) | refine acond_decF (by omega) ?_ | fail)
  refine ACallK.of (toScript_new _ _ sc _ (Ob.sub z10 hsc) hz_sc).cl ?_
  rintro _ H11 ⟨⟨s11, S11, u11, rfl, o11, f11⟩, k11⟩
  have e11 : H10.nxt ≤ H11.nxt := s11.1
  have z11 : Sub G H11 := z10.trans s11
  have o2 := Own.sub o2 s11
  have o6 := Own.sub o6 s11
  have xb2 := s11.2 _ _ xb2
  have xb6 := s11.2 _ _ xb6
  have bx := z11.2 _ _ hB0
  have l11 : ∀ b ∈ S11, b < H11.nxt := fun b hb => k11.1.lt' (Own.isin o11 b hb)
  repeat' (first | simp -implicitDefEqProofs only [go_sem])
  refine ACallK.of (Play_impl _ u11 sc _ (Own.rep o11)).cl ?_
  rintro _ H12 ⟨⟨s12, S12, u12, rfl, o12, f12⟩, k12⟩
  have e12 : H11.nxt ≤ H12.nxt := s12.1
  have z12 : Sub G H12 := z11.trans s12
  have o2 := Own.sub o2 s12
  have o6 := Own.sub o6 s12
  have o11 := Own.sub o11 s12
  have xb2 := s12.2 _ _ xb2
  have xb6 := s12.2 _ _ xb6
  have bx := z12.2 _ _ hB0
  have l12 : ∀ b ∈ S12, b < H12.nxt := fun b hb => k12.1.lt' (Own.isin o12 b hb)
  have n12 : u12.length = 6 := Ob.len (Own.rep (W0 := W0) o12)
  have lf12 : u12.all leafA = true := Ob.leaf (Own.rep (W0 := W0) o12)
  have nbx : ¬ H.nxt = H12.nxt := fun h => by have h2 := k12.1.lt bx; rw [h] at h2; exact absurd h2 (Nat.lt_irrefl _)
  have nxb2 : ¬ H2.nxt = H12.nxt := fun h => by have h2 := k12.1.lt xb2; rw [h] at h2; exact absurd h2 (Nat.lt_irrefl _)
  have nxb6 : ¬ H6.nxt = H12.nxt := fun h => by have h2 := k12.1.lt xb6; rw [h] at h2; exact absurd h2 (Nat.lt_irrefl _)
  repeat' (first | simp -implicitDefEqProofs only [go_sem] | (with_reducible refine And.intro n12 ?_) | (with_reducible refine And.intro lf12 ?_) | (rw [wr_all _ _ (by rw [n12]; rfl)]) | (simp -implicitDefEqProofs only [bx, xb2, xb6, nbx, nxb2, nxb6, take_n n2, n2, take_n n6, n6, take_n n12, n12, if_false, List.drop_zero, Nat.le_refl]))
  obtain ⟨H13, hH13⟩ : ∃ X, X = H12.new u12 6 := ⟨_, rfl⟩
  rw [← hH13]
  have k13 : H13.wf ∧ True := ⟨by rw [hH13]; exact k12.1.new _ _, trivial⟩
  have s13 : Sub H12 H13 := by rw [hH13]; exact (Sub.refl _).new k12.1 _ _
  have xb12 : H13.blk H12.nxt = some ⟨u12, 6⟩ := by rw [hH13]; exact blk_new_self _ _ _
  have hlt13 : H12.nxt < H13.nxt := by rw [hH13]; exact Nat.lt_succ_self _
  clear hH13
  have e13 : H12.nxt ≤ H13.nxt := s13.1
  have z13 : Sub G H13 := z12.trans s13
  have o2 := Own.sub o2 s13
  have o6 := Own.sub o6 s13
  have o12 := Own.sub o12 s13
  have xb2 := s13.2 _ _ xb2
  have xb6 := s13.2 _ _ xb6
  have bx := z13.2 _ _ hB0
  skip
  refine ACallK.eq (eqWorld_ok _ u12 u2 (playD sc) (playD sc) _ (Own.rep o12) (Own.rep o2)) ?_
  rw [decide_eq_true rfl]
  repeat' (first | simp -implicitDefEqProofs only [go_sem] | (simp -implicitDefEqProofs only [bx, xb2, take_n n2, n2, xb6, take_n n6, n6, xb12, take_n n12, n12, List.drop_zero, Nat.le_refl]))
  refine ACallK.eq (heldWorld_ok _ u6 (playD sc) 1 _ (Own.rep o6) (by omega) (by omega)) ?_
  repeat' (first | simp -implicitDefEqProofs only [go_sem] | refine acond_decF (by omega) ?_ | fail)
  exact retK_one rfl
end Go.Proofs.YtipfnhfcoolhaaaGreat.Aw
