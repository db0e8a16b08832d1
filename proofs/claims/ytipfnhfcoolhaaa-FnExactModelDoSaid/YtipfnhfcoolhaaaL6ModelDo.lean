/- The exact law of ModelDo. Printed by law7.py. -/
import Derived.Test.YtipfnhfcoolhaaaFmi
import Derived.Test.YtipfnhfcoolhaaaHModel
import Derived.Test.YtipfnhfcoolhaaaHOp
import Derived.Test.YtipfnhfcoolhaaaQModel
namespace Go.Proofs.Ytipfnhfcoolhaaa.Aw
open Go Go.RowKit
set_option linter.unusedVariables false
set_option linter.unusedSimpArgs false
set_option maxRecDepth 100000
set_option maxHeartbeats 4000000
attribute [-go_sem] wr_eq
/-- What the reference has left. -/
def MdW (W0 : World) (H G : AH) (m : ModelD) (o : OpD) (e1 : Env) (G1 : AH) : Prop := G1.wf ∧ Sub G G1 ∧ (e1 2 = .ptr H.nxt 0 ∧ e1 3 = .ptr (H.nxt + 1) 0 ∧ e1 4 = .v (.bool false)) ∧ ∃ b c v, e1 6 = .ptr b 0 ∧ G1.blk b = some ⟨c, 2⟩ ∧ e1 7 = .v (.int .i64 (modelDo m o).2.1) ∧ e1 8 = v ∧ Ob.rep W0 G1 c (modelDo m o).1 ∧ SlR W0 G1 v (modelDo m o).2.2
/-- What the program has left. -/
def MdG (W0 : World) (G : AH) (keep : List (Nat × AV)) (p q r : Nat) (m : ModelD) (o : OpD) (e1 : Env) (G1 : AH) : Prop := G1.wf ∧ Sub G G1 ∧ (∀ x ∈ keep, e1 x.1 = x.2) ∧ ∃ b c v S T, e1 p = .ptr b 0 ∧ G1.blk b = some ⟨c, 2⟩ ∧ G.nxt ≤ b ∧ b ∉ S ++ T ∧ e1 q = .v (.int .i64 (modelDo m o).2.1) ∧ e1 r = v ∧ Own.own G1 S c (modelDo m o).1 ∧ OwnS G1 T v (modelDo m o).2.2 ∧ Fresh G.nxt (S ++ T)
theorem cntL_krow (xs : List KRowD) : cntL xs = 2 * xs.length := by
  induction xs with
  | nil => rfl
  | cons x xs ih => rw [cntL_cons, ih]; show 2 + 2 * xs.length = 2 * (xs.length + 1); omega
theorem rowAnew_len (l : List RowD) (r : RowD) : (rowAnew l r).length ≤ l.length + 1 := by
  have h1 := addRow_length (butK RowD.key l r.key) r
  have h2 : (butK RowD.key l r.key).length ≤ l.length := List.length_filter_le _ _
  unfold rowAnew; omega
theorem modelDo_len (m : ModelD) (o : OpD) : (modelDo m o).1.keys.length ≤ m.keys.length + 1 ∧ (modelDo m o).1.rows.length ≤ m.rows.length + 1 ∧ (modelDo m o).2.2.length ≤ m.rows.length := by
  unfold modelDo
  repeat' split
  all_goals simp only [List.length_nil, insK_length]
  all_goals refine ⟨by omega, ?_, by omega⟩
  all_goals first | omega | exact rowAnew_len _ _
theorem cnt_md {m : ModelD} {o : OpD} (h1 : Ob.sz m ≤ 1048576) : Mk.cnt (modelDo m o).1 ≤ 1000000000 ∧ cntL (modelDo m o).2.2 ≤ 1000000000 := by
  obtain ⟨l1, l2, l3⟩ := modelDo_len m o
  have hk : m.keys.length + m.rows.length ≤ Ob.sz m := by
    show m.keys.length + m.rows.length ≤ (m.keys.length + _) + (m.rows.length + _); omega
  have e1 : Mk.cnt (modelDo m o).1 = cntL (modelDo m o).1.keys + cntL (modelDo m o).1.rows := rfl
  rw [e1, cntL_krow, cntL_row, cntL_row]
  omega
theorem ExactModelDo_law (W0 : World) (c_m : List AV) (m : ModelD) (c_o : List AV) (o : OpD) (H : AH) (hm : Ob.rep W0 H c_m m) (ho : Ob.rep W0 H c_o o) : ACalls Try.prog W0 4 [.agg c_m, .agg c_o] H (fun v _ => v = .v (.bool true)) := by
  refine acallw Try.func4 rfl (by kernel_rfl) (by kernel_rfl) fun hc hw => ?_
  have hm0 := hm
  have ho0 := ho
  obtain ⟨w1, w2, rfl, _, _⟩ := hm
  obtain ⟨rfl, _⟩ := ho
  repeat' (first | simp -implicitDefEqProofs only [go_sem] | (exact retK_one rfl) | (refine ACallK.szk (szModel_ok _ _ m _ _ (Ob.sub' (by assumption)) (by omega) (by omega)) (fun _ => ?_) (fun _ => ?_)) | (refine ACallK.szk (szOp_ok _ _ o _ _ (Ob.sub' (by assumption)) (by omega) (by omega)) (fun _ => ?_) (fun _ => ?_)) | (refine adraw_cut (MdW W0 H ((H.new [w1, w2] 2).new [AV.v (Value.int IntKind.i64 o.kind), AV.v (Value.string o.key), AV.v (Value.int IntKind.i64 o.what), AV.v (Value.int IntKind.i64 o.val)] 4) m o) ?_ ?_) | refine acond_decF (by omega) ?_)
  all_goals obtain ⟨G, hG⟩ : ∃ G, G = (H.new [w1, w2] 2).new [AV.v (Value.int IntKind.i64 o.kind), AV.v (Value.string o.key), AV.v (Value.int IntKind.i64 o.what), AV.v (Value.int IntKind.i64 o.val)] 4 := ⟨_, rfl⟩
  all_goals rw [← hG]
  all_goals have wG : G.wf := by rw [hG]; exact (hw.new _ _).new _ _
  all_goals have sG : Sub H G := by rw [hG]; exact ((Sub.refl _).new hw _ _).trans ((Sub.refl _).new (hw.new _ _) _ _)
  all_goals have bm : G.blk H.nxt = some ⟨[w1, w2], 2⟩ := by rw [hG]; simp only [go_sem]
  all_goals have bo : G.blk (H.nxt + 1) = some ⟨[AV.v (Value.int IntKind.i64 o.kind), AV.v (Value.string o.key), AV.v (Value.int IntKind.i64 o.what), AV.v (Value.int IntKind.i64 o.val)], 4⟩ := by rw [hG]; simp only [go_sem]
  all_goals clear hG
  all_goals have hm := Ob.sub sG hm0
  all_goals have ho := Ob.sub sG ho0
  all_goals have hz_m : Ob.sz m ≤ 1048576 := by omega
  all_goals have hz_o : Ob.sz o ≤ 1048576 := by omega
  all_goals have hk : m.keys.length + m.rows.length ≤ Ob.sz m := by show m.keys.length + m.rows.length ≤ (m.keys.length + _) + (m.rows.length + _); omega
  all_goals have hl1 : m.keys.length ≤ 1000000000 := by omega
  all_goals have hl2 : m.rows.length ≤ 1000000000 := by omega
  all_goals have zG : Sub G G := Sub.refl _
  · constructor
    have yG : Sub G G := Sub.refl _
    have nbm : ¬ H.nxt = G.nxt := fun h => by have h2 := wG.lt bm; rw [h] at h2; exact absurd h2 (Nat.lt_irrefl _)
    have nbo : ¬ (H.nxt + 1) = G.nxt := fun h => by have h2 := wG.lt bo; rw [h] at h2; exact absurd h2 (Nat.lt_irrefl _)
    repeat' (first | simp -implicitDefEqProofs only [go_sem] | (simp -implicitDefEqProofs only [bm, bo, nbm, nbo, if_false, List.drop_zero, Nat.le_refl]) | ((with_reducible refine adraw_tree (.node [0, 2] [(1, [2], (.node [] [(3, [], (.node [] [(4, [], (.node [5, 6, 7, 8] [(9, [0, 2, 5, 6, 7, 8], (.node [] [(10, [7, 8], (.node [11, 12] []))]))])), (9, [0, 2], (.node [] [(4, [], (.node [5, 6, 7, 8] [(10, [7, 8], (.node [11, 12] []))]))]))])), (9, [0, 2], (.node [] [(3, [], (.node [] [(4, [], (.node [5, 6, 7, 8] [(10, [7, 8], (.node [11, 12] []))]))]))]))])), (9, [0, 2], (.node [] [(1, [2], (.node [] [(3, [], (.node [] [(4, [], (.node [5, 6, 7, 8] [(10, [7, 8], (.node [11, 12] []))]))]))]))]))]) ?_ ?_ ?_); (· kernel_rfl); (· decide +kernel)) | (with_reducible refine And.intro ?_ ?_))
    · skip
      refine ACallK.of (toModel_new _ _ m _ (Ob.sub zG hm) hz_m).cl ?_
      rintro _ Gk1 ⟨⟨sGk1, Sm, cm, rfl, om, fm⟩, kGk1⟩
      have zGk1 : Sub G Gk1 := zG.trans sGk1
      have yGk1 : Sub G Gk1 := yG.trans sGk1
      have eGk1 : G.nxt ≤ Gk1.nxt := sGk1.1
      have bm := sGk1.2 _ _ bm
      have bo := sGk1.2 _ _ bo
      have nbm : ¬ H.nxt = Gk1.nxt := fun h => by have h2 := kGk1.1.lt bm; rw [h] at h2; exact absurd h2 (Nat.lt_irrefl _)
      have nbo : ¬ (H.nxt + 1) = Gk1.nxt := fun h => by have h2 := kGk1.1.lt bo; rw [h] at h2; exact absurd h2 (Nat.lt_irrefl _)
      repeat' (first | simp -implicitDefEqProofs only [go_sem] | (simp -implicitDefEqProofs only [bm, bo, nbm, nbo, if_false, List.drop_zero, Nat.le_refl]) | (with_reducible refine And.intro ?_ ?_))
      · skip
        refine ACallK.of (toOp_new _ _ o _ (Ob.sub zGk1 ho) hz_o).cl ?_
        rintro _ Gk2 ⟨⟨sGk2, So, co, rfl, oo, fo⟩, kGk2⟩
        have zGk2 : Sub G Gk2 := zGk1.trans sGk2
        have yGk2 : Sub G Gk2 := yGk1.trans sGk2
        have eGk2 : Gk1.nxt ≤ Gk2.nxt := sGk2.1
        have bm := sGk2.2 _ _ bm
        have bo := sGk2.2 _ _ bo
        have om := Own.sub om sGk2
        have nbm : ¬ H.nxt = Gk2.nxt := fun h => by have h2 := kGk2.1.lt bm; rw [h] at h2; exact absurd h2 (Nat.lt_irrefl _)
        have nbo : ¬ (H.nxt + 1) = Gk2.nxt := fun h => by have h2 := kGk2.1.lt bo; rw [h] at h2; exact absurd h2 (Nat.lt_irrefl _)
        repeat' (first | simp -implicitDefEqProofs only [go_sem] | (simp -implicitDefEqProofs only [bm, bo, nbm, nbo, if_false, List.drop_zero, Nat.le_refl]) | (with_reducible refine And.intro ?_ ?_))
        · skip
          refine ACallK.of (ModelDo_spec _ _ m _ o _ (Own.rep om) (Own.rep oo) hl1 hl2).cl ?_
          rintro _ Gk3 ⟨⟨cr, vr, rfl, sGk3, SR, TR, or1, or2, fr⟩, kGk3⟩
          have zGk3 : Sub G Gk3 := zGk2.trans sGk3
          have yGk3 : Sub G Gk3 := yGk2.trans sGk3
          have eGk3 : Gk2.nxt ≤ Gk3.nxt := sGk3.1
          have bm := sGk3.2 _ _ bm
          have bo := sGk3.2 _ _ bo
          have om := Own.sub om sGk3
          have oo := Own.sub oo sGk3
          have nbm : ¬ H.nxt = Gk3.nxt := fun h => by have h2 := kGk3.1.lt bm; rw [h] at h2; exact absurd h2 (Nat.lt_irrefl _)
          have nbo : ¬ (H.nxt + 1) = Gk3.nxt := fun h => by have h2 := kGk3.1.lt bo; rw [h] at h2; exact absurd h2 (Nat.lt_irrefl _)
          have nr : cr.length = 2 := Ob.len (Own.rep (W0 := W0) or1)
          have lr : cr.all leafA = true := Ob.leaf (Own.rep (W0 := W0) or1)
          repeat' (first | simp -implicitDefEqProofs only [go_sem] | (simp -implicitDefEqProofs only [bm, bo, nbm, nbo, if_false, List.drop_zero, Nat.le_refl]) | (with_reducible refine And.intro nr ?_) | (with_reducible refine And.intro lr ?_) | (rw [wr_all _ _ (by rw [nr]; rfl)]))
          have sf : Sub Gk3 (Gk3.new cr 2) := (Sub.refl _).new kGk3.1 _ _
          exact ⟨kGk3.1.new _ _, zGk3.trans sf, ⟨(by simp -implicitDefEqProofs only [go_sem]), (by simp -implicitDefEqProofs only [go_sem]), (by simp -implicitDefEqProofs only [go_sem])⟩, Gk3.nxt, cr, vr, (by simp -implicitDefEqProofs only [go_sem]), blk_new_self _ _ _, (by simp -implicitDefEqProofs only [go_sem]), (by simp -implicitDefEqProofs only [go_sem]), Ob.sub sf (Own.rep or1), (or2.slr (W0 := W0)).sub sf⟩
        · skip
          obtain ⟨Gx4, hGx4⟩ : ∃ X, X = Gk2.new [AV.v (Value.slice none 0 0), AV.v (Value.slice none 0 0)] 2 := ⟨_, rfl⟩
          rw [← hGx4]
          have wGx4 : Gx4.wf := by rw [hGx4]; exact (kGk2.1).new _ _
          have sGx4 : Sub Gk2 Gx4 := by rw [hGx4]; exact (Sub.refl _).new kGk2.1 _ _
          have xb : Gx4.blk Gk2.nxt = some ⟨[AV.v (Value.slice none 0 0), AV.v (Value.slice none 0 0)], 2⟩ := by rw [hGx4]; exact blk_new_self _ _ _
          have hx : Gk2.nxt < Gx4.nxt := by rw [hGx4]; exact Nat.lt_succ_self _
          clear hGx4
          have zGx4 : Sub G Gx4 := zGk2.trans sGx4
          have yGx4 : Sub G Gx4 := yGk2.trans sGx4
          have bm := sGx4.2 _ _ bm
          have bo := sGx4.2 _ _ bo
          have om := Own.sub om sGx4
          have oo := Own.sub oo sGx4
          refine ACallK.of (ModelDo_spec _ _ m _ o _ (Own.rep om) (Own.rep oo) hl1 hl2).cl ?_
          rintro _ Gk5 ⟨⟨cr, vr, rfl, sGk5, SR, TR, or1, or2, fr⟩, kGk5⟩
          have zGk5 : Sub G Gk5 := zGx4.trans sGk5
          have yGk5 : Sub G Gk5 := yGx4.trans sGk5
          have eGk5 : Gx4.nxt ≤ Gk5.nxt := sGk5.1
          have bm := sGk5.2 _ _ bm
          have bo := sGk5.2 _ _ bo
          have xb := sGk5.2 _ _ xb
          have om := Own.sub om sGk5
          have oo := Own.sub oo sGk5
          have nbm : ¬ H.nxt = Gk5.nxt := fun h => by have h2 := kGk5.1.lt bm; rw [h] at h2; exact absurd h2 (Nat.lt_irrefl _)
          have nbo : ¬ (H.nxt + 1) = Gk5.nxt := fun h => by have h2 := kGk5.1.lt bo; rw [h] at h2; exact absurd h2 (Nat.lt_irrefl _)
          have nxb : ¬ Gk2.nxt = Gk5.nxt := fun h => by have h2 := kGk5.1.lt xb; rw [h] at h2; exact absurd h2 (Nat.lt_irrefl _)
          have nr : cr.length = 2 := Ob.len (Own.rep (W0 := W0) or1)
          have lr : cr.all leafA = true := Ob.leaf (Own.rep (W0 := W0) or1)
          repeat' (first | simp -implicitDefEqProofs only [go_sem] | (simp -implicitDefEqProofs only [bm, bo, xb, nbm, nbo, nxb, if_false, List.drop_zero, Nat.le_refl]) | (with_reducible refine And.intro nr ?_) | (with_reducible refine And.intro lr ?_) | (rw [wr_all _ _ (by rw [nr]; rfl)]))
          have hS : ∀ x ∈ SR ++ TR, x ≠ Gk2.nxt := fun x hx => by have := fr.2 x hx; omega
          exact ⟨kGk5.1.set (kGk5.1.lt xb) _, zGk5.set wG (by omega) _, ⟨(by simp -implicitDefEqProofs only [go_sem]), (by simp -implicitDefEqProofs only [go_sem]), (by simp -implicitDefEqProofs only [go_sem])⟩, Gk2.nxt, cr, vr, (by simp -implicitDefEqProofs only [go_sem]), blk_set_self _ _ _, (by simp -implicitDefEqProofs only [go_sem]), (by simp -implicitDefEqProofs only [go_sem]), Own.rep (Own.eq or1 (fun x hx => blk_set_ne _ (hS x (List.mem_append_left _ hx)) _)), (or2.setne (fun x hx => hS x (List.mem_append_right _ hx))).slr⟩
      · skip
        obtain ⟨Gx6, hGx6⟩ : ∃ X, X = Gk1.new [AV.v (Value.slice none 0 0), AV.v (Value.slice none 0 0)] 2 := ⟨_, rfl⟩
        rw [← hGx6]
        have wGx6 : Gx6.wf := by rw [hGx6]; exact (kGk1.1).new _ _
        have sGx6 : Sub Gk1 Gx6 := by rw [hGx6]; exact (Sub.refl _).new kGk1.1 _ _
        have xb : Gx6.blk Gk1.nxt = some ⟨[AV.v (Value.slice none 0 0), AV.v (Value.slice none 0 0)], 2⟩ := by rw [hGx6]; exact blk_new_self _ _ _
        have hx : Gk1.nxt < Gx6.nxt := by rw [hGx6]; exact Nat.lt_succ_self _
        clear hGx6
        have zGx6 : Sub G Gx6 := zGk1.trans sGx6
        have yGx6 : Sub G Gx6 := yGk1.trans sGx6
        have bm := sGx6.2 _ _ bm
        have bo := sGx6.2 _ _ bo
        have om := Own.sub om sGx6
        refine ACallK.of (toOp_new _ _ o _ (Ob.sub zGx6 ho) hz_o).cl ?_
        rintro _ Gk7 ⟨⟨sGk7, So, co, rfl, oo, fo⟩, kGk7⟩
        have zGk7 : Sub G Gk7 := zGx6.trans sGk7
        have yGk7 : Sub G Gk7 := yGx6.trans sGk7
        have eGk7 : Gx6.nxt ≤ Gk7.nxt := sGk7.1
        have bm := sGk7.2 _ _ bm
        have bo := sGk7.2 _ _ bo
        have xb := sGk7.2 _ _ xb
        have om := Own.sub om sGk7
        have nbm : ¬ H.nxt = Gk7.nxt := fun h => by have h2 := kGk7.1.lt bm; rw [h] at h2; exact absurd h2 (Nat.lt_irrefl _)
        have nbo : ¬ (H.nxt + 1) = Gk7.nxt := fun h => by have h2 := kGk7.1.lt bo; rw [h] at h2; exact absurd h2 (Nat.lt_irrefl _)
        have nxb : ¬ Gk1.nxt = Gk7.nxt := fun h => by have h2 := kGk7.1.lt xb; rw [h] at h2; exact absurd h2 (Nat.lt_irrefl _)
        repeat' (first | simp -implicitDefEqProofs only [go_sem])
        refine ACallK.of (ModelDo_spec _ _ m _ o _ (Own.rep om) (Own.rep oo) hl1 hl2).cl ?_
        rintro _ Gk8 ⟨⟨cr, vr, rfl, sGk8, SR, TR, or1, or2, fr⟩, kGk8⟩
        have zGk8 : Sub G Gk8 := zGk7.trans sGk8
        have yGk8 : Sub G Gk8 := yGk7.trans sGk8
        have eGk8 : Gk7.nxt ≤ Gk8.nxt := sGk8.1
        have bm := sGk8.2 _ _ bm
        have bo := sGk8.2 _ _ bo
        have xb := sGk8.2 _ _ xb
        have om := Own.sub om sGk8
        have oo := Own.sub oo sGk8
        have nbm : ¬ H.nxt = Gk8.nxt := fun h => by have h2 := kGk8.1.lt bm; rw [h] at h2; exact absurd h2 (Nat.lt_irrefl _)
        have nbo : ¬ (H.nxt + 1) = Gk8.nxt := fun h => by have h2 := kGk8.1.lt bo; rw [h] at h2; exact absurd h2 (Nat.lt_irrefl _)
        have nxb : ¬ Gk1.nxt = Gk8.nxt := fun h => by have h2 := kGk8.1.lt xb; rw [h] at h2; exact absurd h2 (Nat.lt_irrefl _)
        have nr : cr.length = 2 := Ob.len (Own.rep (W0 := W0) or1)
        have lr : cr.all leafA = true := Ob.leaf (Own.rep (W0 := W0) or1)
        repeat' (first | simp -implicitDefEqProofs only [go_sem] | (simp -implicitDefEqProofs only [bm, bo, xb, nbm, nbo, nxb, if_false, List.drop_zero, Nat.le_refl]) | (with_reducible refine And.intro nr ?_) | (with_reducible refine And.intro lr ?_) | (rw [wr_all _ _ (by rw [nr]; rfl)]))
        have hS : ∀ x ∈ SR ++ TR, x ≠ Gk1.nxt := fun x hx => by have := fr.2 x hx; omega
        exact ⟨kGk8.1.set (kGk8.1.lt xb) _, zGk8.set wG (by omega) _, ⟨(by simp -implicitDefEqProofs only [go_sem]), (by simp -implicitDefEqProofs only [go_sem]), (by simp -implicitDefEqProofs only [go_sem])⟩, Gk1.nxt, cr, vr, (by simp -implicitDefEqProofs only [go_sem]), blk_set_self _ _ _, (by simp -implicitDefEqProofs only [go_sem]), (by simp -implicitDefEqProofs only [go_sem]), Own.rep (Own.eq or1 (fun x hx => blk_set_ne _ (hS x (List.mem_append_left _ hx)) _)), (or2.setne (fun x hx => hS x (List.mem_append_right _ hx))).slr⟩
    · skip
      obtain ⟨Gx9, hGx9⟩ : ∃ X, X = G.new [AV.v (Value.slice none 0 0), AV.v (Value.slice none 0 0)] 2 := ⟨_, rfl⟩
      rw [← hGx9]
      have wGx9 : Gx9.wf := by rw [hGx9]; exact (wG).new _ _
      have sGx9 : Sub G Gx9 := by rw [hGx9]; exact (Sub.refl _).new wG _ _
      have xb : Gx9.blk G.nxt = some ⟨[AV.v (Value.slice none 0 0), AV.v (Value.slice none 0 0)], 2⟩ := by rw [hGx9]; exact blk_new_self _ _ _
      have hx : G.nxt < Gx9.nxt := by rw [hGx9]; exact Nat.lt_succ_self _
      clear hGx9
      have zGx9 : Sub G Gx9 := zG.trans sGx9
      have yGx9 : Sub G Gx9 := yG.trans sGx9
      have bm := sGx9.2 _ _ bm
      have bo := sGx9.2 _ _ bo
      refine ACallK.of (toModel_new _ _ m _ (Ob.sub zGx9 hm) hz_m).cl ?_
      rintro _ Gk10 ⟨⟨sGk10, Sm, cm, rfl, om, fm⟩, kGk10⟩
      have zGk10 : Sub G Gk10 := zGx9.trans sGk10
      have yGk10 : Sub G Gk10 := yGx9.trans sGk10
      have eGk10 : Gx9.nxt ≤ Gk10.nxt := sGk10.1
      have bm := sGk10.2 _ _ bm
      have bo := sGk10.2 _ _ bo
      have xb := sGk10.2 _ _ xb
      have nbm : ¬ H.nxt = Gk10.nxt := fun h => by have h2 := kGk10.1.lt bm; rw [h] at h2; exact absurd h2 (Nat.lt_irrefl _)
      have nbo : ¬ (H.nxt + 1) = Gk10.nxt := fun h => by have h2 := kGk10.1.lt bo; rw [h] at h2; exact absurd h2 (Nat.lt_irrefl _)
      have nxb : ¬ G.nxt = Gk10.nxt := fun h => by have h2 := kGk10.1.lt xb; rw [h] at h2; exact absurd h2 (Nat.lt_irrefl _)
      repeat' (first | simp -implicitDefEqProofs only [go_sem] | (simp -implicitDefEqProofs only [bm, bo, xb, nbm, nbo, nxb, if_false, List.drop_zero, Nat.le_refl]))
      refine ACallK.of (toOp_new _ _ o _ (Ob.sub zGk10 ho) hz_o).cl ?_
      rintro _ Gk11 ⟨⟨sGk11, So, co, rfl, oo, fo⟩, kGk11⟩
      have zGk11 : Sub G Gk11 := zGk10.trans sGk11
      have yGk11 : Sub G Gk11 := yGk10.trans sGk11
      have eGk11 : Gk10.nxt ≤ Gk11.nxt := sGk11.1
      have bm := sGk11.2 _ _ bm
      have bo := sGk11.2 _ _ bo
      have xb := sGk11.2 _ _ xb
      have om := Own.sub om sGk11
      have nbm : ¬ H.nxt = Gk11.nxt := fun h => by have h2 := kGk11.1.lt bm; rw [h] at h2; exact absurd h2 (Nat.lt_irrefl _)
      have nbo : ¬ (H.nxt + 1) = Gk11.nxt := fun h => by have h2 := kGk11.1.lt bo; rw [h] at h2; exact absurd h2 (Nat.lt_irrefl _)
      have nxb : ¬ G.nxt = Gk11.nxt := fun h => by have h2 := kGk11.1.lt xb; rw [h] at h2; exact absurd h2 (Nat.lt_irrefl _)
      repeat' (first | simp -implicitDefEqProofs only [go_sem])
      refine ACallK.of (ModelDo_spec _ _ m _ o _ (Own.rep om) (Own.rep oo) hl1 hl2).cl ?_
      rintro _ Gk12 ⟨⟨cr, vr, rfl, sGk12, SR, TR, or1, or2, fr⟩, kGk12⟩
      have zGk12 : Sub G Gk12 := zGk11.trans sGk12
      have yGk12 : Sub G Gk12 := yGk11.trans sGk12
      have eGk12 : Gk11.nxt ≤ Gk12.nxt := sGk12.1
      have bm := sGk12.2 _ _ bm
      have bo := sGk12.2 _ _ bo
      have xb := sGk12.2 _ _ xb
      have om := Own.sub om sGk12
      have oo := Own.sub oo sGk12
      have nbm : ¬ H.nxt = Gk12.nxt := fun h => by have h2 := kGk12.1.lt bm; rw [h] at h2; exact absurd h2 (Nat.lt_irrefl _)
      have nbo : ¬ (H.nxt + 1) = Gk12.nxt := fun h => by have h2 := kGk12.1.lt bo; rw [h] at h2; exact absurd h2 (Nat.lt_irrefl _)
      have nxb : ¬ G.nxt = Gk12.nxt := fun h => by have h2 := kGk12.1.lt xb; rw [h] at h2; exact absurd h2 (Nat.lt_irrefl _)
      have nr : cr.length = 2 := Ob.len (Own.rep (W0 := W0) or1)
      have lr : cr.all leafA = true := Ob.leaf (Own.rep (W0 := W0) or1)
      repeat' (first | simp -implicitDefEqProofs only [go_sem] | (simp -implicitDefEqProofs only [bm, bo, xb, nbm, nbo, nxb, if_false, List.drop_zero, Nat.le_refl]) | (with_reducible refine And.intro nr ?_) | (with_reducible refine And.intro lr ?_) | (rw [wr_all _ _ (by rw [nr]; rfl)]))
      have hS : ∀ x ∈ SR ++ TR, x ≠ G.nxt := fun x hx => by have := fr.2 x hx; omega
      exact ⟨kGk12.1.set (kGk12.1.lt xb) _, zGk12.set wG (by omega) _, ⟨(by simp -implicitDefEqProofs only [go_sem]), (by simp -implicitDefEqProofs only [go_sem]), (by simp -implicitDefEqProofs only [go_sem])⟩, G.nxt, cr, vr, (by simp -implicitDefEqProofs only [go_sem]), blk_set_self _ _ _, (by simp -implicitDefEqProofs only [go_sem]), (by simp -implicitDefEqProofs only [go_sem]), Own.rep (Own.eq or1 (fun x hx => blk_set_ne _ (hS x (List.mem_append_left _ hx)) _)), (or2.setne (fun x hx => hS x (List.mem_append_right _ hx))).slr⟩
  constructor
  intro e1 G1 hW1
  obtain ⟨wG1, zG1, ⟨p2, p3, p4⟩, b1, c1, v1, p6, x6, p7, p8, r1c, r1v⟩ := hW1
  have bm1 := zG1.2 _ _ bm
  have bo1 := zG1.2 _ _ bo
  repeat' (first | simp -implicitDefEqProofs only [go_sem] | (simp -implicitDefEqProofs only [p2, p3, p4, p6, p7, p8, bm1, bo1, List.drop_zero, Nat.le_refl]))
  refine ACallK.of (toModel_new _ _ m _ (Ob.sub zG1 hm) hz_m).cl ?_
  rintro _ H2 ⟨⟨s2, S2, u2, rfl, o2, f2⟩, k2⟩
  have n2 : u2.length = 2 := Ob.len (Own.rep (W0 := W0) o2)
  have lf2 : u2.all leafA = true := Ob.leaf (Own.rep (W0 := W0) o2)
  have hS2 : ∀ b ∈ S2, G1.nxt ≤ b ∧ b < H2.nxt := fun b hb => ⟨f2.2 b hb, k2.1.lt' (Own.isin o2 b hb)⟩
  have tk2 : u2.take 2 = u2 := List.take_of_length_le (by omega)
  have hx6 : b1 < G1.nxt := wG1.lt x6
  repeat' (first | simp -implicitDefEqProofs only [go_sem] | (with_reducible refine And.intro n2 ?_) | (with_reducible refine And.intro lf2 ?_) | (rw [wr_all _ _ (by rw [n2]; rfl)]) | (refine adraw_cut (MdG W0 (H2.new u2 2) [(2, .ptr H.nxt 0), (3, .ptr (H.nxt + 1) 0), (4, .v (.bool false)), (6, .ptr b1 0), (7, .v (.int .i64 (modelDo m o).2.1)), (8, v1), (9, .ptr H2.nxt 0)] 10 11 12 m o) ?_ ?_))
  all_goals obtain ⟨H3, hH3⟩ : ∃ X, X = H2.new u2 2 := ⟨_, rfl⟩
  all_goals rw [← hH3]
  all_goals have w3 : H3.wf := by rw [hH3]; exact k2.1.new _ _
  all_goals have s3 : Sub H2 H3 := by rw [hH3]; exact (Sub.refl _).new k2.1 _ _
  all_goals have bx : H3.blk H2.nxt = some ⟨u2, 2⟩ := by rw [hH3]; exact blk_new_self _ _ _
  all_goals have hlt3 : H2.nxt < H3.nxt := by rw [hH3]; exact Nat.lt_succ_self _
  all_goals clear hH3
  all_goals have bm3 := (s2.trans s3).2 _ _ bm1
  all_goals have bo3 := (s2.trans s3).2 _ _ bo1
  all_goals have x63 := (s2.trans s3).2 _ _ x6
  all_goals have o2 := Own.sub o2 s3
  all_goals have zH3 : Sub G H3 := zG1.trans (s2.trans s3)
  · constructor
    have yH3 : Sub H3 H3 := Sub.refl _
    have nbm3 : ¬ H.nxt = H3.nxt := fun h => by have h2 := w3.lt bm3; rw [h] at h2; exact absurd h2 (Nat.lt_irrefl _)
    have nbo3 : ¬ (H.nxt + 1) = H3.nxt := fun h => by have h2 := w3.lt bo3; rw [h] at h2; exact absurd h2 (Nat.lt_irrefl _)
    have nx63 : ¬ b1 = H3.nxt := fun h => by have h2 := w3.lt x63; rw [h] at h2; exact absurd h2 (Nat.lt_irrefl _)
    have nbx : ¬ H2.nxt = H3.nxt := fun h => by have h2 := w3.lt bx; rw [h] at h2; exact absurd h2 (Nat.lt_irrefl _)
    repeat' (first | simp -implicitDefEqProofs only [go_sem] | (simp -implicitDefEqProofs only [bm3, bo3, x63, bx, nbm3, nbo3, nx63, nbx, p2, p3, p4, p6, p7, p8, n2, tk2, if_false, List.drop_zero, Nat.le_refl]) | ((with_reducible refine adraw_tree (.node [0, 1] [(2, [0], (.node [] [(3, [], (.node [4, 5, 6, 7] [(8, [0, 1, 4, 5, 6, 7], (.node [] [(9, [6, 7], (.node [10, 11] []))]))])), (8, [0, 1], (.node [] [(3, [], (.node [4, 5, 6, 7] [(9, [6, 7], (.node [10, 11] []))]))]))])), (8, [0, 1], (.node [] [(2, [0], (.node [] [(3, [], (.node [4, 5, 6, 7] [(9, [6, 7], (.node [10, 11] []))]))]))]))]) ?_ ?_ ?_); (· kernel_rfl); (· decide +kernel)) | (with_reducible refine And.intro ?_ ?_))
    · skip
      refine ACallK.of (toOp_new _ _ o _ (Ob.sub zH3 ho) hz_o).cl ?_
      rintro _ H3k1 ⟨⟨sH3k1, So, co, rfl, oo, fo⟩, kH3k1⟩
      have zH3k1 : Sub G H3k1 := zH3.trans sH3k1
      have yH3k1 : Sub H3 H3k1 := yH3.trans sH3k1
      have eH3k1 : H3.nxt ≤ H3k1.nxt := sH3k1.1
      have bm3 := sH3k1.2 _ _ bm3
      have bo3 := sH3k1.2 _ _ bo3
      have x63 := sH3k1.2 _ _ x63
      have bx := sH3k1.2 _ _ bx
      have o2 := Own.sub o2 sH3k1
      have nbm3 : ¬ H.nxt = H3k1.nxt := fun h => by have h2 := kH3k1.1.lt bm3; rw [h] at h2; exact absurd h2 (Nat.lt_irrefl _)
      have nbo3 : ¬ (H.nxt + 1) = H3k1.nxt := fun h => by have h2 := kH3k1.1.lt bo3; rw [h] at h2; exact absurd h2 (Nat.lt_irrefl _)
      have nx63 : ¬ b1 = H3k1.nxt := fun h => by have h2 := kH3k1.1.lt x63; rw [h] at h2; exact absurd h2 (Nat.lt_irrefl _)
      have nbx : ¬ H2.nxt = H3k1.nxt := fun h => by have h2 := kH3k1.1.lt bx; rw [h] at h2; exact absurd h2 (Nat.lt_irrefl _)
      repeat' (first | simp -implicitDefEqProofs only [go_sem] | (simp -implicitDefEqProofs only [bm3, bo3, x63, bx, nbm3, nbo3, nx63, nbx, if_false, List.drop_zero, Nat.le_refl, p2, p3, p4, p6, p7, p8, n2, tk2]) | (with_reducible refine And.intro ?_ ?_))
      · skip
        refine ACallK.of (ModelDo_impl _ _ m _ o _ (Own.rep o2) (Own.rep oo) hl1 hl2).cl ?_
        rintro _ H3k2 ⟨⟨cr, vr, rfl, sH3k2, SR, TR, or1, or2, fr⟩, kH3k2⟩
        have zH3k2 : Sub G H3k2 := zH3k1.trans sH3k2
        have yH3k2 : Sub H3 H3k2 := yH3k1.trans sH3k2
        have eH3k2 : H3k1.nxt ≤ H3k2.nxt := sH3k2.1
        have bm3 := sH3k2.2 _ _ bm3
        have bo3 := sH3k2.2 _ _ bo3
        have x63 := sH3k2.2 _ _ x63
        have bx := sH3k2.2 _ _ bx
        have o2 := Own.sub o2 sH3k2
        have oo := Own.sub oo sH3k2
        have nbm3 : ¬ H.nxt = H3k2.nxt := fun h => by have h2 := kH3k2.1.lt bm3; rw [h] at h2; exact absurd h2 (Nat.lt_irrefl _)
        have nbo3 : ¬ (H.nxt + 1) = H3k2.nxt := fun h => by have h2 := kH3k2.1.lt bo3; rw [h] at h2; exact absurd h2 (Nat.lt_irrefl _)
        have nx63 : ¬ b1 = H3k2.nxt := fun h => by have h2 := kH3k2.1.lt x63; rw [h] at h2; exact absurd h2 (Nat.lt_irrefl _)
        have nbx : ¬ H2.nxt = H3k2.nxt := fun h => by have h2 := kH3k2.1.lt bx; rw [h] at h2; exact absurd h2 (Nat.lt_irrefl _)
        have nr : cr.length = 2 := Ob.len (Own.rep (W0 := W0) or1)
        have lr : cr.all leafA = true := Ob.leaf (Own.rep (W0 := W0) or1)
        repeat' (first | simp -implicitDefEqProofs only [go_sem] | (simp -implicitDefEqProofs only [bm3, bo3, x63, bx, nbm3, nbo3, nx63, nbx, if_false, List.drop_zero, Nat.le_refl, p2, p3, p4, p6, p7, p8, n2, tk2]) | (with_reducible refine And.intro nr ?_) | (with_reducible refine And.intro lr ?_) | (rw [wr_all _ _ (by rw [nr]; rfl)]))
        have sf : Sub H3k2 (H3k2.new cr 2) := (Sub.refl _).new kH3k2.1 _ _
        have sb : Sub H3 H3k2 := yH3k2
        exact ⟨kH3k2.1.new _ _, sb.trans sf, (by intro x hx; simp only [List.mem_cons, List.not_mem_nil, or_false] at hx; rcases hx with rfl | rfl | rfl | rfl | rfl | rfl | rfl <;> simp -implicitDefEqProofs only [go_sem, p2, p3, p4, p6, p7, p8]), H3k2.nxt, cr, vr, SR, TR, (by simp -implicitDefEqProofs only [go_sem, p2, p3, p4, p6, p7, p8]), blk_new_self _ _ _, by omega, fun hm => absurd (kH3k2.1.lt' ((List.mem_append.1 hm).elim (fun h => Own.isin or1 _ h) (fun h => or2.isin _ h))) (Nat.lt_irrefl _), (by simp -implicitDefEqProofs only [go_sem, p2, p3, p4, p6, p7, p8]), (by simp -implicitDefEqProofs only [go_sem, p2, p3, p4, p6, p7, p8]), Own.sub or1 sf, or2.sub sf, fr.le (by omega)⟩
      · skip
        obtain ⟨H3x3, hH3x3⟩ : ∃ X, X = H3k1.new [AV.v (Value.slice none 0 0), AV.v (Value.slice none 0 0)] 2 := ⟨_, rfl⟩
        rw [← hH3x3]
        have wH3x3 : H3x3.wf := by rw [hH3x3]; exact (kH3k1.1).new _ _
        have sH3x3 : Sub H3k1 H3x3 := by rw [hH3x3]; exact (Sub.refl _).new kH3k1.1 _ _
        have xb : H3x3.blk H3k1.nxt = some ⟨[AV.v (Value.slice none 0 0), AV.v (Value.slice none 0 0)], 2⟩ := by rw [hH3x3]; exact blk_new_self _ _ _
        have hx : H3k1.nxt < H3x3.nxt := by rw [hH3x3]; exact Nat.lt_succ_self _
        clear hH3x3
        have zH3x3 : Sub G H3x3 := zH3k1.trans sH3x3
        have yH3x3 : Sub H3 H3x3 := yH3k1.trans sH3x3
        have bm3 := sH3x3.2 _ _ bm3
        have bo3 := sH3x3.2 _ _ bo3
        have x63 := sH3x3.2 _ _ x63
        have bx := sH3x3.2 _ _ bx
        have o2 := Own.sub o2 sH3x3
        have oo := Own.sub oo sH3x3
        refine ACallK.of (ModelDo_impl _ _ m _ o _ (Own.rep o2) (Own.rep oo) hl1 hl2).cl ?_
        rintro _ H3k4 ⟨⟨cr, vr, rfl, sH3k4, SR, TR, or1, or2, fr⟩, kH3k4⟩
        have zH3k4 : Sub G H3k4 := zH3x3.trans sH3k4
        have yH3k4 : Sub H3 H3k4 := yH3x3.trans sH3k4
        have eH3k4 : H3x3.nxt ≤ H3k4.nxt := sH3k4.1
        have bm3 := sH3k4.2 _ _ bm3
        have bo3 := sH3k4.2 _ _ bo3
        have x63 := sH3k4.2 _ _ x63
        have bx := sH3k4.2 _ _ bx
        have xb := sH3k4.2 _ _ xb
        have o2 := Own.sub o2 sH3k4
        have oo := Own.sub oo sH3k4
        have nbm3 : ¬ H.nxt = H3k4.nxt := fun h => by have h2 := kH3k4.1.lt bm3; rw [h] at h2; exact absurd h2 (Nat.lt_irrefl _)
        have nbo3 : ¬ (H.nxt + 1) = H3k4.nxt := fun h => by have h2 := kH3k4.1.lt bo3; rw [h] at h2; exact absurd h2 (Nat.lt_irrefl _)
        have nx63 : ¬ b1 = H3k4.nxt := fun h => by have h2 := kH3k4.1.lt x63; rw [h] at h2; exact absurd h2 (Nat.lt_irrefl _)
        have nbx : ¬ H2.nxt = H3k4.nxt := fun h => by have h2 := kH3k4.1.lt bx; rw [h] at h2; exact absurd h2 (Nat.lt_irrefl _)
        have nxb : ¬ H3k1.nxt = H3k4.nxt := fun h => by have h2 := kH3k4.1.lt xb; rw [h] at h2; exact absurd h2 (Nat.lt_irrefl _)
        have nr : cr.length = 2 := Ob.len (Own.rep (W0 := W0) or1)
        have lr : cr.all leafA = true := Ob.leaf (Own.rep (W0 := W0) or1)
        repeat' (first | simp -implicitDefEqProofs only [go_sem] | (simp -implicitDefEqProofs only [bm3, bo3, x63, bx, xb, nbm3, nbo3, nx63, nbx, nxb, if_false, List.drop_zero, Nat.le_refl, p2, p3, p4, p6, p7, p8, n2, tk2]) | (with_reducible refine And.intro nr ?_) | (with_reducible refine And.intro lr ?_) | (rw [wr_all _ _ (by rw [nr]; rfl)]))
        have hS : ∀ x ∈ SR ++ TR, x ≠ H3k1.nxt := fun x hx => by have := fr.2 x hx; omega
        have sb : Sub H3 H3k4 := yH3k4
        exact ⟨kH3k4.1.set (kH3k4.1.lt xb) _, sb.set w3 (by omega) _, (by intro x hx; simp only [List.mem_cons, List.not_mem_nil, or_false] at hx; rcases hx with rfl | rfl | rfl | rfl | rfl | rfl | rfl <;> simp -implicitDefEqProofs only [go_sem, p2, p3, p4, p6, p7, p8]), H3k1.nxt, cr, vr, SR, TR, (by simp -implicitDefEqProofs only [go_sem, p2, p3, p4, p6, p7, p8]), blk_set_self _ _ _, by omega, fun hm => hS _ hm rfl, (by simp -implicitDefEqProofs only [go_sem, p2, p3, p4, p6, p7, p8]), (by simp -implicitDefEqProofs only [go_sem, p2, p3, p4, p6, p7, p8]), Own.eq or1 (fun x hx => blk_set_ne _ (hS x (List.mem_append_left _ hx)) _), or2.setne (fun x hx => hS x (List.mem_append_right _ hx)), fr.le (by omega)⟩
    · skip
      obtain ⟨H3x5, hH3x5⟩ : ∃ X, X = H3.new [AV.v (Value.slice none 0 0), AV.v (Value.slice none 0 0)] 2 := ⟨_, rfl⟩
      rw [← hH3x5]
      have wH3x5 : H3x5.wf := by rw [hH3x5]; exact (w3).new _ _
      have sH3x5 : Sub H3 H3x5 := by rw [hH3x5]; exact (Sub.refl _).new w3 _ _
      have xb : H3x5.blk H3.nxt = some ⟨[AV.v (Value.slice none 0 0), AV.v (Value.slice none 0 0)], 2⟩ := by rw [hH3x5]; exact blk_new_self _ _ _
      have hx : H3.nxt < H3x5.nxt := by rw [hH3x5]; exact Nat.lt_succ_self _
      clear hH3x5
      have zH3x5 : Sub G H3x5 := zH3.trans sH3x5
      have yH3x5 : Sub H3 H3x5 := yH3.trans sH3x5
      have bm3 := sH3x5.2 _ _ bm3
      have bo3 := sH3x5.2 _ _ bo3
      have x63 := sH3x5.2 _ _ x63
      have bx := sH3x5.2 _ _ bx
      have o2 := Own.sub o2 sH3x5
      refine ACallK.of (toOp_new _ _ o _ (Ob.sub zH3x5 ho) hz_o).cl ?_
      rintro _ H3k6 ⟨⟨sH3k6, So, co, rfl, oo, fo⟩, kH3k6⟩
      have zH3k6 : Sub G H3k6 := zH3x5.trans sH3k6
      have yH3k6 : Sub H3 H3k6 := yH3x5.trans sH3k6
      have eH3k6 : H3x5.nxt ≤ H3k6.nxt := sH3k6.1
      have bm3 := sH3k6.2 _ _ bm3
      have bo3 := sH3k6.2 _ _ bo3
      have x63 := sH3k6.2 _ _ x63
      have bx := sH3k6.2 _ _ bx
      have xb := sH3k6.2 _ _ xb
      have o2 := Own.sub o2 sH3k6
      have nbm3 : ¬ H.nxt = H3k6.nxt := fun h => by have h2 := kH3k6.1.lt bm3; rw [h] at h2; exact absurd h2 (Nat.lt_irrefl _)
      have nbo3 : ¬ (H.nxt + 1) = H3k6.nxt := fun h => by have h2 := kH3k6.1.lt bo3; rw [h] at h2; exact absurd h2 (Nat.lt_irrefl _)
      have nx63 : ¬ b1 = H3k6.nxt := fun h => by have h2 := kH3k6.1.lt x63; rw [h] at h2; exact absurd h2 (Nat.lt_irrefl _)
      have nbx : ¬ H2.nxt = H3k6.nxt := fun h => by have h2 := kH3k6.1.lt bx; rw [h] at h2; exact absurd h2 (Nat.lt_irrefl _)
      have nxb : ¬ H3.nxt = H3k6.nxt := fun h => by have h2 := kH3k6.1.lt xb; rw [h] at h2; exact absurd h2 (Nat.lt_irrefl _)
      repeat' (first | simp -implicitDefEqProofs only [go_sem] | (simp -implicitDefEqProofs only [bm3, bo3, x63, bx, xb, nbm3, nbo3, nx63, nbx, nxb, if_false, List.drop_zero, Nat.le_refl, p2, p3, p4, p6, p7, p8, n2, tk2]))
      refine ACallK.of (ModelDo_impl _ _ m _ o _ (Own.rep o2) (Own.rep oo) hl1 hl2).cl ?_
      rintro _ H3k7 ⟨⟨cr, vr, rfl, sH3k7, SR, TR, or1, or2, fr⟩, kH3k7⟩
      have zH3k7 : Sub G H3k7 := zH3k6.trans sH3k7
      have yH3k7 : Sub H3 H3k7 := yH3k6.trans sH3k7
      have eH3k7 : H3k6.nxt ≤ H3k7.nxt := sH3k7.1
      have bm3 := sH3k7.2 _ _ bm3
      have bo3 := sH3k7.2 _ _ bo3
      have x63 := sH3k7.2 _ _ x63
      have bx := sH3k7.2 _ _ bx
      have xb := sH3k7.2 _ _ xb
      have o2 := Own.sub o2 sH3k7
      have oo := Own.sub oo sH3k7
      have nbm3 : ¬ H.nxt = H3k7.nxt := fun h => by have h2 := kH3k7.1.lt bm3; rw [h] at h2; exact absurd h2 (Nat.lt_irrefl _)
      have nbo3 : ¬ (H.nxt + 1) = H3k7.nxt := fun h => by have h2 := kH3k7.1.lt bo3; rw [h] at h2; exact absurd h2 (Nat.lt_irrefl _)
      have nx63 : ¬ b1 = H3k7.nxt := fun h => by have h2 := kH3k7.1.lt x63; rw [h] at h2; exact absurd h2 (Nat.lt_irrefl _)
      have nbx : ¬ H2.nxt = H3k7.nxt := fun h => by have h2 := kH3k7.1.lt bx; rw [h] at h2; exact absurd h2 (Nat.lt_irrefl _)
      have nxb : ¬ H3.nxt = H3k7.nxt := fun h => by have h2 := kH3k7.1.lt xb; rw [h] at h2; exact absurd h2 (Nat.lt_irrefl _)
      have nr : cr.length = 2 := Ob.len (Own.rep (W0 := W0) or1)
      have lr : cr.all leafA = true := Ob.leaf (Own.rep (W0 := W0) or1)
      repeat' (first | simp -implicitDefEqProofs only [go_sem] | (simp -implicitDefEqProofs only [bm3, bo3, x63, bx, xb, nbm3, nbo3, nx63, nbx, nxb, if_false, List.drop_zero, Nat.le_refl, p2, p3, p4, p6, p7, p8, n2, tk2]) | (with_reducible refine And.intro nr ?_) | (with_reducible refine And.intro lr ?_) | (rw [wr_all _ _ (by rw [nr]; rfl)]))
      have hS : ∀ x ∈ SR ++ TR, x ≠ H3.nxt := fun x hx => by have := fr.2 x hx; omega
      have sb : Sub H3 H3k7 := yH3k7
      exact ⟨kH3k7.1.set (kH3k7.1.lt xb) _, sb.set w3 (by omega) _, (by intro x hx; simp only [List.mem_cons, List.not_mem_nil, or_false] at hx; rcases hx with rfl | rfl | rfl | rfl | rfl | rfl | rfl <;> simp -implicitDefEqProofs only [go_sem, p2, p3, p4, p6, p7, p8]), H3.nxt, cr, vr, SR, TR, (by simp -implicitDefEqProofs only [go_sem, p2, p3, p4, p6, p7, p8]), blk_set_self _ _ _, by omega, fun hm => hS _ hm rfl, (by simp -implicitDefEqProofs only [go_sem, p2, p3, p4, p6, p7, p8]), (by simp -implicitDefEqProofs only [go_sem, p2, p3, p4, p6, p7, p8]), Own.eq or1 (fun x hx => blk_set_ne _ (hS x (List.mem_append_left _ hx)) _), or2.setne (fun x hx => hS x (List.mem_append_right _ hx)), fr.le (by omega)⟩
  constructor
  intro e2 M hW2
  obtain ⟨wM, zM, keep, b2, c2, v2, S, T, q10, x10, hb2, nb2, q11, q12, og, ov, fg⟩ := hW2
  have q2 := keep (2, .ptr H.nxt 0) (by simp)
  have q3 := keep (3, .ptr (H.nxt + 1) 0) (by simp)
  have q4 := keep (4, .v (.bool false)) (by simp)
  have q6 := keep (6, .ptr b1 0) (by simp)
  have q7 := keep (7, .v (.int .i64 (modelDo m o).2.1)) (by simp)
  have q8 := keep (8, v1) (by simp)
  have q9 := keep (9, .ptr H2.nxt 0) (by simp)
  simp only at q2 q3 q4 q6 q7 q8 q9
  have zq : Sub G M := zH3.trans zM
  have yq : Sub G1 M := (s2.trans s3).trans zM
  have hbG : H.nxt + 1 < G.nxt := wG.lt bo
  have hGG : G.nxt ≤ G1.nxt := zG1.1
  have hG2 : G1.nxt ≤ H2.nxt := s2.1
  have hM3 : H3.nxt ≤ M.nxt := zM.1
  have hbM : b2 < M.nxt := wM.lt x10
  have hST : ∀ b ∈ S ++ T, H3.nxt ≤ b ∧ b < M.nxt ∧ b ≠ b2 := fun b hb => ⟨fg.2 b hb, wM.lt' ((List.mem_append.1 hb).elim (fun h => Own.isin og b h) (fun h => ov.isin b h)), fun h => nb2 (h ▸ hb)⟩
  have bm := zM.2 _ _ bm3
  have bo := zM.2 _ _ bo3
  have x6 := zM.2 _ _ x63
  have bx := zM.2 _ _ bx
  have o2 := Own.sub o2 zM
  have nc2 : c2.length = 2 := Ob.len (Own.rep (W0 := W0) og)
  have tk3 : c2.take 2 = c2 := List.take_of_length_le (by omega)
  have nc1 : c1.length = 2 := Ob.len r1c
  have tk1 : c1.take 2 = c1 := List.take_of_length_le (by omega)
  have hcn := cnt_le_V (x := m) hz_m
  obtain ⟨hcg, hcv⟩ := cnt_md (m := m) (o := o) hz_m
  repeat' (first | simp -implicitDefEqProofs only [go_sem] | (simp -implicitDefEqProofs only [q2, q3, q4, q6, q7, q8, q9, q10, q11, q12, bm, bo, x6, bx, x10, n2, tk2, nc2, tk3, nc1, tk1, List.drop_zero, Nat.le_refl]))
  refine ACallK.eq (eqModel_ok _ c2 c1 (modelDo m o).1 (modelDo m o).1 _ (Own.rep og) (Ob.sub yq r1c)) ?_
  rw [decide_eq_true rfl]
  repeat' (first | simp -implicitDefEqProofs only [go_sem] | (simp -implicitDefEqProofs only [q2, q3, q4, q6, q7, q8, q9, q10, q11, q12, bm, bo, x6, bx, x10, n2, tk2, nc2, tk3, nc1, tk1, List.drop_zero, Nat.le_refl]))
  refine ACallK.eq (eqRowS_ok _ v2 v1 (modelDo m o).2.2 (modelDo m o).2.2 _ ov.slr (r1v.sub yq)) ?_
  rw [decide_eq_true rfl]
  repeat' (first | simp -implicitDefEqProofs only [go_sem] | (simp -implicitDefEqProofs only [q2, q3, q4, q6, q7, q8, q9, q10, q11, q12, bm, bo, x6, bx, x10, n2, tk2, nc2, tk3, nc1, tk1, List.drop_zero, Nat.le_refl]) | ((with_reducible refine adraw_plan [(0, []), (1, []), (2, [0]), (3, []), (4, [])] ?_ ?_ ?_); (· kernel_rfl); (· decide +kernel)))
  refine ACallK.of (toModel_new _ _ m _ (Ob.sub zq hm) hz_m).cl ?_
  rintro _ M1 ⟨⟨s4, S4, u4, rfl, o4, f4⟩, k4⟩
  have zq := zq.trans s4
  have yq := yq.trans s4
  have o2 := Own.sub o2 s4
  have og := Own.sub og s4
  have ov := ov.sub s4
  have e4 : M.nxt ≤ M1.nxt := s4.1
  have bm := s4.2 _ _ bm
  have bo := s4.2 _ _ bo
  have x6 := s4.2 _ _ x6
  have bx := s4.2 _ _ bx
  have x10 := s4.2 _ _ x10
  repeat' (first | simp -implicitDefEqProofs only [go_sem] | (simp -implicitDefEqProofs only [q2, q3, q4, q6, q7, q8, q9, q10, q11, q12, bm, bo, x6, bx, x10, n2, tk2, nc2, tk3, nc1, tk1, List.drop_zero, Nat.le_refl]))
  refine ACallK.eq (eqModel_ok _ u2 u4 m m _ (Own.rep o2) (Own.rep o4)) ?_
  rw [decide_eq_true rfl]
  repeat' (first | simp -implicitDefEqProofs only [go_sem] | (simp -implicitDefEqProofs only [q2, q3, q4, q6, q7, q8, q9, q10, q11, q12, bm, bo, x6, bx, x10, n2, tk2, nc2, tk3, nc1, tk1, List.drop_zero, Nat.le_refl]))
  refine ACallK.of (markModel_ok _ u2 m 1 S2 _ o2 f2.1 (by omega) (by omega)).cl ?_
  rintro _ M2 ⟨⟨rfl, g5, -⟩, k5⟩
  have e5 : M1.nxt ≤ M2.nxt := g5.1
  have zq := (g5.sub wG zq (fun b hb => by have := hS2 b hb; omega)).1
  have yq := (g5.sub wG1 yq (fun b hb => (hS2 b hb).1)).1
  have og := g5.ownV og (fun b hb hm => by have := hS2 b hm; have := hST b (List.mem_append_left _ hb); omega)
  have ov := g5.own ov (fun b hb hm => by have := hS2 b hm; have := hST b (List.mem_append_right _ hb); omega)
  have bm := g5.2.1 _ _ (fun hm => by have := hS2 _ hm; omega) bm
  have bo := g5.2.1 _ _ (fun hm => by have := hS2 _ hm; omega) bo
  have x6 := g5.2.1 _ _ (fun hm => by have := hS2 _ hm; omega) x6
  have bx := g5.2.1 _ _ (fun hm => by have := hS2 _ hm; omega) bx
  have x10 := g5.2.1 _ _ (fun hm => by have := hS2 _ hm; omega) x10
  repeat' (first | simp -implicitDefEqProofs only [go_sem] | (simp -implicitDefEqProofs only [q2, q3, q4, q6, q7, q8, q9, q10, q11, q12, bm, bo, x6, bx, x10, n2, tk2, nc2, tk3, nc1, tk1, List.drop_zero, Nat.le_refl]) | refine agrd_decf (fun _ => ?_) (fun _ => ?_))
  all_goals first | (exfalso; omega) | skip
  refine ACallK.eq (eqModel_ok _ c2 c1 (modelDo m o).1 (modelDo m o).1 _ (Own.rep og) (Ob.sub yq r1c)) ?_
  rw [decide_eq_true rfl]
  repeat' (first | simp -implicitDefEqProofs only [go_sem] | (simp -implicitDefEqProofs only [q2, q3, q4, q6, q7, q8, q9, q10, q11, q12, bm, bo, x6, bx, x10, n2, tk2, nc2, tk3, nc1, tk1, List.drop_zero, Nat.le_refl]))
  refine ACallK.eq (eqRowS_ok _ v2 v1 (modelDo m o).2.2 (modelDo m o).2.2 _ ov.slr (r1v.sub yq)) ?_
  rw [decide_eq_true rfl]
  repeat' (first | simp -implicitDefEqProofs only [go_sem] | (simp -implicitDefEqProofs only [q2, q3, q4, q6, q7, q8, q9, q10, q11, q12, bm, bo, x6, bx, x10, n2, tk2, nc2, tk3, nc1, tk1, List.drop_zero, Nat.le_refl]))
  refine ACallK.of (markModel_ok _ c2 (modelDo m o).1 1 S _ og fg.left.1 (by omega) (by omega)).cl ?_
  rintro _ M3 ⟨⟨rfl, g6, og'⟩, k6⟩
  have e6 : M2.nxt ≤ M3.nxt := g6.1
  have hSl : ∀ b ∈ S, H3.nxt ≤ b ∧ b < M.nxt ∧ b ≠ b2 := fun b hb => hST b (List.mem_append_left _ hb)
  have hTl : ∀ b ∈ T, H3.nxt ≤ b ∧ b < M.nxt ∧ b ≠ b2 := fun b hb => hST b (List.mem_append_right _ hb)
  have dst := nd_two fg.1
  have zq := (g6.sub wG zq (fun b hb => by have := hSl b hb; omega)).1
  have yq := (g6.sub wG1 yq (fun b hb => by have := hSl b hb; omega)).1
  have ov := g6.own ov dst.2.2.2
  have bm := g6.2.1 _ _ (fun hm => by have := hSl _ hm; omega) bm
  have bo := g6.2.1 _ _ (fun hm => by have := hSl _ hm; omega) bo
  have x6 := g6.2.1 _ _ (fun hm => by have := hSl _ hm; omega) x6
  have x10 := g6.2.1 _ _ (fun hm => by have := hSl _ hm; omega) x10
  repeat' (first | simp -implicitDefEqProofs only [go_sem] | (simp -implicitDefEqProofs only [q2, q3, q4, q6, q7, q8, q9, q10, q11, q12, bm, bo, x6, x10, nc2, tk3, nc1, tk1, List.drop_zero, Nat.le_refl]))
  refine ACallK.of (markRowS_ok _ v2 (modelDo m o).2.2 (1 + ((Mk.cnt (modelDo m o).1 : Nat) : Int)) T _ ov fg.right.1 (by omega) (by omega)).cl ?_
  rintro _ M4 ⟨⟨rfl, g7, ov'⟩, k7⟩
  have g7 := g7.upd fg.right.1
  have e7 : M3.nxt ≤ M4.nxt := g7.1
  have zq := (g7.sub wG zq (fun b hb => by have := hTl b hb; omega)).1
  have yq := (g7.sub wG1 yq (fun b hb => by have := hTl b hb; omega)).1
  have og' := g7.ownV og' dst.2.2.1
  have bm := g7.2.1 _ _ (fun hm => by have := hTl _ hm; omega) bm
  have bo := g7.2.1 _ _ (fun hm => by have := hTl _ hm; omega) bo
  have x6 := g7.2.1 _ _ (fun hm => by have := hTl _ hm; omega) x6
  have x10 := g7.2.1 _ _ (fun hm => by have := hTl _ hm; omega) x10
  repeat' (first | simp -implicitDefEqProofs only [go_sem] | (simp -implicitDefEqProofs only [q2, q3, q4, q6, q7, q8, q9, q10, q11, q12, bm, bo, x6, x10, nc2, tk3, nc1, tk1, List.drop_zero, Nat.le_refl]))
  refine ACallK.eq (heldModel_ok _ c2 (modelDo m o).1 1 _ (Own.rep og') (by omega) (by omega)) ?_
  repeat' (first | simp -implicitDefEqProofs only [go_sem] | (simp -implicitDefEqProofs only [q2, q3, q4, q6, q7, q8, q9, q10, q11, q12, bm, bo, x6, x10, nc2, tk3, nc1, tk1, List.drop_zero, Nat.le_refl]) | refine acond_decF (by omega) ?_)
  refine ACallK.eq (heldRowS_ok _ v2 (modelDo m o).2.2 (1 + ((Mk.cnt (modelDo m o).1 : Nat) : Int)) _ ov'.slr (by omega) (by omega)) ?_
  repeat' (first | simp -implicitDefEqProofs only [go_sem] | (simp -implicitDefEqProofs only [q2, q3, q4, q6, q7, q8, q9, q10, q11, q12, bm, bo, x6, x10, nc2, tk3, nc1, tk1, List.drop_zero, Nat.le_refl]) | (refine adraw_cut (MdG W0 M4 [(4, .v (.bool false)), (6, .ptr b1 0), (7, .v (.int .i64 (modelDo m o).2.1)), (8, v1), (10, .ptr b2 0), (12, v2), (14, .v (.int .i64 (1 + ((Mk.cnt (modelDo m o).1 : Nat) : Int) + ((cntL (modelDo m o).2.2 : Nat) : Int))))] 16 17 18 m o) ?_ ?_) | refine acond_decF (by omega) ?_)
  · constructor
    have zM4 : Sub G M4 := zq
    have yM4 : Sub M4 M4 := Sub.refl _
    have nbm : ¬ H.nxt = M4.nxt := fun h => by have h2 := k7.1.lt bm; rw [h] at h2; exact absurd h2 (Nat.lt_irrefl _)
    have nbo : ¬ (H.nxt + 1) = M4.nxt := fun h => by have h2 := k7.1.lt bo; rw [h] at h2; exact absurd h2 (Nat.lt_irrefl _)
    have nx6 : ¬ b1 = M4.nxt := fun h => by have h2 := k7.1.lt x6; rw [h] at h2; exact absurd h2 (Nat.lt_irrefl _)
    have nx10 : ¬ b2 = M4.nxt := fun h => by have h2 := k7.1.lt x10; rw [h] at h2; exact absurd h2 (Nat.lt_irrefl _)
    repeat' (first | simp -implicitDefEqProofs only [go_sem] | (simp -implicitDefEqProofs only [bm, bo, x6, x10, nbm, nbo, nx6, nx10, q2, q3, q4, q6, q7, q8, q10, q12, if_false, List.drop_zero, Nat.le_refl]) | ((with_reducible refine adraw_tree (.node [0, 2] [(1, [2], (.node [] [(3, [], (.node [] [(4, [], (.node [5, 6, 7, 8] [(9, [0, 2, 5, 6, 7, 8], (.node [] [(10, [7, 8], (.node [11, 12] []))]))])), (9, [0, 2], (.node [] [(4, [], (.node [5, 6, 7, 8] [(10, [7, 8], (.node [11, 12] []))]))]))])), (9, [0, 2], (.node [] [(3, [], (.node [] [(4, [], (.node [5, 6, 7, 8] [(10, [7, 8], (.node [11, 12] []))]))]))]))])), (9, [0, 2], (.node [] [(1, [2], (.node [] [(3, [], (.node [] [(4, [], (.node [5, 6, 7, 8] [(10, [7, 8], (.node [11, 12] []))]))]))]))]))]) ?_ ?_ ?_); (· kernel_rfl); (· decide +kernel)) | (with_reducible refine And.intro ?_ ?_))
    · skip
      refine ACallK.of (toModel_new _ _ m _ (Ob.sub zM4 hm) hz_m).cl ?_
      rintro _ M4k1 ⟨⟨sM4k1, Sm, cm, rfl, om, fm⟩, kM4k1⟩
      have zM4k1 : Sub G M4k1 := zM4.trans sM4k1
      have yM4k1 : Sub M4 M4k1 := yM4.trans sM4k1
      have eM4k1 : M4.nxt ≤ M4k1.nxt := sM4k1.1
      have bm := sM4k1.2 _ _ bm
      have bo := sM4k1.2 _ _ bo
      have x6 := sM4k1.2 _ _ x6
      have x10 := sM4k1.2 _ _ x10
      have nbm : ¬ H.nxt = M4k1.nxt := fun h => by have h2 := kM4k1.1.lt bm; rw [h] at h2; exact absurd h2 (Nat.lt_irrefl _)
      have nbo : ¬ (H.nxt + 1) = M4k1.nxt := fun h => by have h2 := kM4k1.1.lt bo; rw [h] at h2; exact absurd h2 (Nat.lt_irrefl _)
      have nx6 : ¬ b1 = M4k1.nxt := fun h => by have h2 := kM4k1.1.lt x6; rw [h] at h2; exact absurd h2 (Nat.lt_irrefl _)
      have nx10 : ¬ b2 = M4k1.nxt := fun h => by have h2 := kM4k1.1.lt x10; rw [h] at h2; exact absurd h2 (Nat.lt_irrefl _)
      repeat' (first | simp -implicitDefEqProofs only [go_sem] | (simp -implicitDefEqProofs only [bm, bo, x6, x10, nbm, nbo, nx6, nx10, if_false, List.drop_zero, Nat.le_refl, q2, q3, q4, q6, q7, q8, q10, q12]) | (with_reducible refine And.intro ?_ ?_))
      · skip
        refine ACallK.of (toOp_new _ _ o _ (Ob.sub zM4k1 ho) hz_o).cl ?_
        rintro _ M4k2 ⟨⟨sM4k2, So, co, rfl, oo, fo⟩, kM4k2⟩
        have zM4k2 : Sub G M4k2 := zM4k1.trans sM4k2
        have yM4k2 : Sub M4 M4k2 := yM4k1.trans sM4k2
        have eM4k2 : M4k1.nxt ≤ M4k2.nxt := sM4k2.1
        have bm := sM4k2.2 _ _ bm
        have bo := sM4k2.2 _ _ bo
        have x6 := sM4k2.2 _ _ x6
        have x10 := sM4k2.2 _ _ x10
        have om := Own.sub om sM4k2
        have nbm : ¬ H.nxt = M4k2.nxt := fun h => by have h2 := kM4k2.1.lt bm; rw [h] at h2; exact absurd h2 (Nat.lt_irrefl _)
        have nbo : ¬ (H.nxt + 1) = M4k2.nxt := fun h => by have h2 := kM4k2.1.lt bo; rw [h] at h2; exact absurd h2 (Nat.lt_irrefl _)
        have nx6 : ¬ b1 = M4k2.nxt := fun h => by have h2 := kM4k2.1.lt x6; rw [h] at h2; exact absurd h2 (Nat.lt_irrefl _)
        have nx10 : ¬ b2 = M4k2.nxt := fun h => by have h2 := kM4k2.1.lt x10; rw [h] at h2; exact absurd h2 (Nat.lt_irrefl _)
        repeat' (first | simp -implicitDefEqProofs only [go_sem] | (simp -implicitDefEqProofs only [bm, bo, x6, x10, nbm, nbo, nx6, nx10, if_false, List.drop_zero, Nat.le_refl, q2, q3, q4, q6, q7, q8, q10, q12]) | (with_reducible refine And.intro ?_ ?_))
        · skip
          refine ACallK.of (ModelDo_impl _ _ m _ o _ (Own.rep om) (Own.rep oo) hl1 hl2).cl ?_
          rintro _ M4k3 ⟨⟨cr, vr, rfl, sM4k3, SR, TR, or1, or2, fr⟩, kM4k3⟩
          have zM4k3 : Sub G M4k3 := zM4k2.trans sM4k3
          have yM4k3 : Sub M4 M4k3 := yM4k2.trans sM4k3
          have eM4k3 : M4k2.nxt ≤ M4k3.nxt := sM4k3.1
          have bm := sM4k3.2 _ _ bm
          have bo := sM4k3.2 _ _ bo
          have x6 := sM4k3.2 _ _ x6
          have x10 := sM4k3.2 _ _ x10
          have om := Own.sub om sM4k3
          have oo := Own.sub oo sM4k3
          have nbm : ¬ H.nxt = M4k3.nxt := fun h => by have h2 := kM4k3.1.lt bm; rw [h] at h2; exact absurd h2 (Nat.lt_irrefl _)
          have nbo : ¬ (H.nxt + 1) = M4k3.nxt := fun h => by have h2 := kM4k3.1.lt bo; rw [h] at h2; exact absurd h2 (Nat.lt_irrefl _)
          have nx6 : ¬ b1 = M4k3.nxt := fun h => by have h2 := kM4k3.1.lt x6; rw [h] at h2; exact absurd h2 (Nat.lt_irrefl _)
          have nx10 : ¬ b2 = M4k3.nxt := fun h => by have h2 := kM4k3.1.lt x10; rw [h] at h2; exact absurd h2 (Nat.lt_irrefl _)
          have nr : cr.length = 2 := Ob.len (Own.rep (W0 := W0) or1)
          have lr : cr.all leafA = true := Ob.leaf (Own.rep (W0 := W0) or1)
          repeat' (first | simp -implicitDefEqProofs only [go_sem] | (simp -implicitDefEqProofs only [bm, bo, x6, x10, nbm, nbo, nx6, nx10, if_false, List.drop_zero, Nat.le_refl, q2, q3, q4, q6, q7, q8, q10, q12]) | (with_reducible refine And.intro nr ?_) | (with_reducible refine And.intro lr ?_) | (rw [wr_all _ _ (by rw [nr]; rfl)]))
          have sf : Sub M4k3 (M4k3.new cr 2) := (Sub.refl _).new kM4k3.1 _ _
          have sb : Sub M4 M4k3 := yM4k3
          exact ⟨kM4k3.1.new _ _, sb.trans sf, (by intro x hx; simp only [List.mem_cons, List.not_mem_nil, or_false] at hx; rcases hx with rfl | rfl | rfl | rfl | rfl | rfl | rfl <;> simp -implicitDefEqProofs only [go_sem, q2, q3, q4, q6, q7, q8, q10, q12]), M4k3.nxt, cr, vr, SR, TR, (by simp -implicitDefEqProofs only [go_sem, q2, q3, q4, q6, q7, q8, q10, q12]), blk_new_self _ _ _, by omega, fun hm => absurd (kM4k3.1.lt' ((List.mem_append.1 hm).elim (fun h => Own.isin or1 _ h) (fun h => or2.isin _ h))) (Nat.lt_irrefl _), (by simp -implicitDefEqProofs only [go_sem, q2, q3, q4, q6, q7, q8, q10, q12]), (by simp -implicitDefEqProofs only [go_sem, q2, q3, q4, q6, q7, q8, q10, q12]), Own.sub or1 sf, or2.sub sf, fr.le (by omega)⟩
        · skip
          obtain ⟨M4x4, hM4x4⟩ : ∃ X, X = M4k2.new [AV.v (Value.slice none 0 0), AV.v (Value.slice none 0 0)] 2 := ⟨_, rfl⟩
          rw [← hM4x4]
          have wM4x4 : M4x4.wf := by rw [hM4x4]; exact (kM4k2.1).new _ _
          have sM4x4 : Sub M4k2 M4x4 := by rw [hM4x4]; exact (Sub.refl _).new kM4k2.1 _ _
          have xb : M4x4.blk M4k2.nxt = some ⟨[AV.v (Value.slice none 0 0), AV.v (Value.slice none 0 0)], 2⟩ := by rw [hM4x4]; exact blk_new_self _ _ _
          have hx : M4k2.nxt < M4x4.nxt := by rw [hM4x4]; exact Nat.lt_succ_self _
          clear hM4x4
          have zM4x4 : Sub G M4x4 := zM4k2.trans sM4x4
          have yM4x4 : Sub M4 M4x4 := yM4k2.trans sM4x4
          have bm := sM4x4.2 _ _ bm
          have bo := sM4x4.2 _ _ bo
          have x6 := sM4x4.2 _ _ x6
          have x10 := sM4x4.2 _ _ x10
          have om := Own.sub om sM4x4
          have oo := Own.sub oo sM4x4
          refine ACallK.of (ModelDo_impl _ _ m _ o _ (Own.rep om) (Own.rep oo) hl1 hl2).cl ?_
          rintro _ M4k5 ⟨⟨cr, vr, rfl, sM4k5, SR, TR, or1, or2, fr⟩, kM4k5⟩
          have zM4k5 : Sub G M4k5 := zM4x4.trans sM4k5
          have yM4k5 : Sub M4 M4k5 := yM4x4.trans sM4k5
          have eM4k5 : M4x4.nxt ≤ M4k5.nxt := sM4k5.1
          have bm := sM4k5.2 _ _ bm
          have bo := sM4k5.2 _ _ bo
          have x6 := sM4k5.2 _ _ x6
          have x10 := sM4k5.2 _ _ x10
          have xb := sM4k5.2 _ _ xb
          have om := Own.sub om sM4k5
          have oo := Own.sub oo sM4k5
          have nbm : ¬ H.nxt = M4k5.nxt := fun h => by have h2 := kM4k5.1.lt bm; rw [h] at h2; exact absurd h2 (Nat.lt_irrefl _)
          have nbo : ¬ (H.nxt + 1) = M4k5.nxt := fun h => by have h2 := kM4k5.1.lt bo; rw [h] at h2; exact absurd h2 (Nat.lt_irrefl _)
          have nx6 : ¬ b1 = M4k5.nxt := fun h => by have h2 := kM4k5.1.lt x6; rw [h] at h2; exact absurd h2 (Nat.lt_irrefl _)
          have nx10 : ¬ b2 = M4k5.nxt := fun h => by have h2 := kM4k5.1.lt x10; rw [h] at h2; exact absurd h2 (Nat.lt_irrefl _)
          have nxb : ¬ M4k2.nxt = M4k5.nxt := fun h => by have h2 := kM4k5.1.lt xb; rw [h] at h2; exact absurd h2 (Nat.lt_irrefl _)
          have nr : cr.length = 2 := Ob.len (Own.rep (W0 := W0) or1)
          have lr : cr.all leafA = true := Ob.leaf (Own.rep (W0 := W0) or1)
          repeat' (first | simp -implicitDefEqProofs only [go_sem] | (simp -implicitDefEqProofs only [bm, bo, x6, x10, xb, nbm, nbo, nx6, nx10, nxb, if_false, List.drop_zero, Nat.le_refl, q2, q3, q4, q6, q7, q8, q10, q12]) | (with_reducible refine And.intro nr ?_) | (with_reducible refine And.intro lr ?_) | (rw [wr_all _ _ (by rw [nr]; rfl)]))
          have hS : ∀ x ∈ SR ++ TR, x ≠ M4k2.nxt := fun x hx => by have := fr.2 x hx; omega
          have sb : Sub M4 M4k5 := yM4k5
          exact ⟨kM4k5.1.set (kM4k5.1.lt xb) _, sb.set k7.1 (by omega) _, (by intro x hx; simp only [List.mem_cons, List.not_mem_nil, or_false] at hx; rcases hx with rfl | rfl | rfl | rfl | rfl | rfl | rfl <;> simp -implicitDefEqProofs only [go_sem, q2, q3, q4, q6, q7, q8, q10, q12]), M4k2.nxt, cr, vr, SR, TR, (by simp -implicitDefEqProofs only [go_sem, q2, q3, q4, q6, q7, q8, q10, q12]), blk_set_self _ _ _, by omega, fun hm => hS _ hm rfl, (by simp -implicitDefEqProofs only [go_sem, q2, q3, q4, q6, q7, q8, q10, q12]), (by simp -implicitDefEqProofs only [go_sem, q2, q3, q4, q6, q7, q8, q10, q12]), Own.eq or1 (fun x hx => blk_set_ne _ (hS x (List.mem_append_left _ hx)) _), or2.setne (fun x hx => hS x (List.mem_append_right _ hx)), fr.le (by omega)⟩
      · skip
        obtain ⟨M4x6, hM4x6⟩ : ∃ X, X = M4k1.new [AV.v (Value.slice none 0 0), AV.v (Value.slice none 0 0)] 2 := ⟨_, rfl⟩
        rw [← hM4x6]
        have wM4x6 : M4x6.wf := by rw [hM4x6]; exact (kM4k1.1).new _ _
        have sM4x6 : Sub M4k1 M4x6 := by rw [hM4x6]; exact (Sub.refl _).new kM4k1.1 _ _
        have xb : M4x6.blk M4k1.nxt = some ⟨[AV.v (Value.slice none 0 0), AV.v (Value.slice none 0 0)], 2⟩ := by rw [hM4x6]; exact blk_new_self _ _ _
        have hx : M4k1.nxt < M4x6.nxt := by rw [hM4x6]; exact Nat.lt_succ_self _
        clear hM4x6
        have zM4x6 : Sub G M4x6 := zM4k1.trans sM4x6
        have yM4x6 : Sub M4 M4x6 := yM4k1.trans sM4x6
        have bm := sM4x6.2 _ _ bm
        have bo := sM4x6.2 _ _ bo
        have x6 := sM4x6.2 _ _ x6
        have x10 := sM4x6.2 _ _ x10
        have om := Own.sub om sM4x6
        refine ACallK.of (toOp_new _ _ o _ (Ob.sub zM4x6 ho) hz_o).cl ?_
        rintro _ M4k7 ⟨⟨sM4k7, So, co, rfl, oo, fo⟩, kM4k7⟩
        have zM4k7 : Sub G M4k7 := zM4x6.trans sM4k7
        have yM4k7 : Sub M4 M4k7 := yM4x6.trans sM4k7
        have eM4k7 : M4x6.nxt ≤ M4k7.nxt := sM4k7.1
        have bm := sM4k7.2 _ _ bm
        have bo := sM4k7.2 _ _ bo
        have x6 := sM4k7.2 _ _ x6
        have x10 := sM4k7.2 _ _ x10
        have xb := sM4k7.2 _ _ xb
        have om := Own.sub om sM4k7
        have nbm : ¬ H.nxt = M4k7.nxt := fun h => by have h2 := kM4k7.1.lt bm; rw [h] at h2; exact absurd h2 (Nat.lt_irrefl _)
        have nbo : ¬ (H.nxt + 1) = M4k7.nxt := fun h => by have h2 := kM4k7.1.lt bo; rw [h] at h2; exact absurd h2 (Nat.lt_irrefl _)
        have nx6 : ¬ b1 = M4k7.nxt := fun h => by have h2 := kM4k7.1.lt x6; rw [h] at h2; exact absurd h2 (Nat.lt_irrefl _)
        have nx10 : ¬ b2 = M4k7.nxt := fun h => by have h2 := kM4k7.1.lt x10; rw [h] at h2; exact absurd h2 (Nat.lt_irrefl _)
        have nxb : ¬ M4k1.nxt = M4k7.nxt := fun h => by have h2 := kM4k7.1.lt xb; rw [h] at h2; exact absurd h2 (Nat.lt_irrefl _)
        repeat' (first | simp -implicitDefEqProofs only [go_sem])
        refine ACallK.of (ModelDo_impl _ _ m _ o _ (Own.rep om) (Own.rep oo) hl1 hl2).cl ?_
        rintro _ M4k8 ⟨⟨cr, vr, rfl, sM4k8, SR, TR, or1, or2, fr⟩, kM4k8⟩
        have zM4k8 : Sub G M4k8 := zM4k7.trans sM4k8
        have yM4k8 : Sub M4 M4k8 := yM4k7.trans sM4k8
        have eM4k8 : M4k7.nxt ≤ M4k8.nxt := sM4k8.1
        have bm := sM4k8.2 _ _ bm
        have bo := sM4k8.2 _ _ bo
        have x6 := sM4k8.2 _ _ x6
        have x10 := sM4k8.2 _ _ x10
        have xb := sM4k8.2 _ _ xb
        have om := Own.sub om sM4k8
        have oo := Own.sub oo sM4k8
        have nbm : ¬ H.nxt = M4k8.nxt := fun h => by have h2 := kM4k8.1.lt bm; rw [h] at h2; exact absurd h2 (Nat.lt_irrefl _)
        have nbo : ¬ (H.nxt + 1) = M4k8.nxt := fun h => by have h2 := kM4k8.1.lt bo; rw [h] at h2; exact absurd h2 (Nat.lt_irrefl _)
        have nx6 : ¬ b1 = M4k8.nxt := fun h => by have h2 := kM4k8.1.lt x6; rw [h] at h2; exact absurd h2 (Nat.lt_irrefl _)
        have nx10 : ¬ b2 = M4k8.nxt := fun h => by have h2 := kM4k8.1.lt x10; rw [h] at h2; exact absurd h2 (Nat.lt_irrefl _)
        have nxb : ¬ M4k1.nxt = M4k8.nxt := fun h => by have h2 := kM4k8.1.lt xb; rw [h] at h2; exact absurd h2 (Nat.lt_irrefl _)
        have nr : cr.length = 2 := Ob.len (Own.rep (W0 := W0) or1)
        have lr : cr.all leafA = true := Ob.leaf (Own.rep (W0 := W0) or1)
        repeat' (first | simp -implicitDefEqProofs only [go_sem] | (simp -implicitDefEqProofs only [bm, bo, x6, x10, xb, nbm, nbo, nx6, nx10, nxb, if_false, List.drop_zero, Nat.le_refl, q2, q3, q4, q6, q7, q8, q10, q12]) | (with_reducible refine And.intro nr ?_) | (with_reducible refine And.intro lr ?_) | (rw [wr_all _ _ (by rw [nr]; rfl)]))
        have hS : ∀ x ∈ SR ++ TR, x ≠ M4k1.nxt := fun x hx => by have := fr.2 x hx; omega
        have sb : Sub M4 M4k8 := yM4k8
        exact ⟨kM4k8.1.set (kM4k8.1.lt xb) _, sb.set k7.1 (by omega) _, (by intro x hx; simp only [List.mem_cons, List.not_mem_nil, or_false] at hx; rcases hx with rfl | rfl | rfl | rfl | rfl | rfl | rfl <;> simp -implicitDefEqProofs only [go_sem, q2, q3, q4, q6, q7, q8, q10, q12]), M4k1.nxt, cr, vr, SR, TR, (by simp -implicitDefEqProofs only [go_sem, q2, q3, q4, q6, q7, q8, q10, q12]), blk_set_self _ _ _, by omega, fun hm => hS _ hm rfl, (by simp -implicitDefEqProofs only [go_sem, q2, q3, q4, q6, q7, q8, q10, q12]), (by simp -implicitDefEqProofs only [go_sem, q2, q3, q4, q6, q7, q8, q10, q12]), Own.eq or1 (fun x hx => blk_set_ne _ (hS x (List.mem_append_left _ hx)) _), or2.setne (fun x hx => hS x (List.mem_append_right _ hx)), fr.le (by omega)⟩
    · skip
      obtain ⟨M4x9, hM4x9⟩ : ∃ X, X = M4.new [AV.v (Value.slice none 0 0), AV.v (Value.slice none 0 0)] 2 := ⟨_, rfl⟩
      rw [← hM4x9]
      have wM4x9 : M4x9.wf := by rw [hM4x9]; exact (k7.1).new _ _
      have sM4x9 : Sub M4 M4x9 := by rw [hM4x9]; exact (Sub.refl _).new k7.1 _ _
      have xb : M4x9.blk M4.nxt = some ⟨[AV.v (Value.slice none 0 0), AV.v (Value.slice none 0 0)], 2⟩ := by rw [hM4x9]; exact blk_new_self _ _ _
      have hx : M4.nxt < M4x9.nxt := by rw [hM4x9]; exact Nat.lt_succ_self _
      clear hM4x9
      have zM4x9 : Sub G M4x9 := zM4.trans sM4x9
      have yM4x9 : Sub M4 M4x9 := yM4.trans sM4x9
      have bm := sM4x9.2 _ _ bm
      have bo := sM4x9.2 _ _ bo
      have x6 := sM4x9.2 _ _ x6
      have x10 := sM4x9.2 _ _ x10
      refine ACallK.of (toModel_new _ _ m _ (Ob.sub zM4x9 hm) hz_m).cl ?_
      rintro _ M4k10 ⟨⟨sM4k10, Sm, cm, rfl, om, fm⟩, kM4k10⟩
      have zM4k10 : Sub G M4k10 := zM4x9.trans sM4k10
      have yM4k10 : Sub M4 M4k10 := yM4x9.trans sM4k10
      have eM4k10 : M4x9.nxt ≤ M4k10.nxt := sM4k10.1
      have bm := sM4k10.2 _ _ bm
      have bo := sM4k10.2 _ _ bo
      have x6 := sM4k10.2 _ _ x6
      have x10 := sM4k10.2 _ _ x10
      have xb := sM4k10.2 _ _ xb
      have nbm : ¬ H.nxt = M4k10.nxt := fun h => by have h2 := kM4k10.1.lt bm; rw [h] at h2; exact absurd h2 (Nat.lt_irrefl _)
      have nbo : ¬ (H.nxt + 1) = M4k10.nxt := fun h => by have h2 := kM4k10.1.lt bo; rw [h] at h2; exact absurd h2 (Nat.lt_irrefl _)
      have nx6 : ¬ b1 = M4k10.nxt := fun h => by have h2 := kM4k10.1.lt x6; rw [h] at h2; exact absurd h2 (Nat.lt_irrefl _)
      have nx10 : ¬ b2 = M4k10.nxt := fun h => by have h2 := kM4k10.1.lt x10; rw [h] at h2; exact absurd h2 (Nat.lt_irrefl _)
      have nxb : ¬ M4.nxt = M4k10.nxt := fun h => by have h2 := kM4k10.1.lt xb; rw [h] at h2; exact absurd h2 (Nat.lt_irrefl _)
      repeat' (first | simp -implicitDefEqProofs only [go_sem] | (simp -implicitDefEqProofs only [bm, bo, x6, x10, xb, nbm, nbo, nx6, nx10, nxb, if_false, List.drop_zero, Nat.le_refl, q2, q3, q4, q6, q7, q8, q10, q12]))
      refine ACallK.of (toOp_new _ _ o _ (Ob.sub zM4k10 ho) hz_o).cl ?_
      rintro _ M4k11 ⟨⟨sM4k11, So, co, rfl, oo, fo⟩, kM4k11⟩
      have zM4k11 : Sub G M4k11 := zM4k10.trans sM4k11
      have yM4k11 : Sub M4 M4k11 := yM4k10.trans sM4k11
      have eM4k11 : M4k10.nxt ≤ M4k11.nxt := sM4k11.1
      have bm := sM4k11.2 _ _ bm
      have bo := sM4k11.2 _ _ bo
      have x6 := sM4k11.2 _ _ x6
      have x10 := sM4k11.2 _ _ x10
      have xb := sM4k11.2 _ _ xb
      have om := Own.sub om sM4k11
      have nbm : ¬ H.nxt = M4k11.nxt := fun h => by have h2 := kM4k11.1.lt bm; rw [h] at h2; exact absurd h2 (Nat.lt_irrefl _)
      have nbo : ¬ (H.nxt + 1) = M4k11.nxt := fun h => by have h2 := kM4k11.1.lt bo; rw [h] at h2; exact absurd h2 (Nat.lt_irrefl _)
      have nx6 : ¬ b1 = M4k11.nxt := fun h => by have h2 := kM4k11.1.lt x6; rw [h] at h2; exact absurd h2 (Nat.lt_irrefl _)
      have nx10 : ¬ b2 = M4k11.nxt := fun h => by have h2 := kM4k11.1.lt x10; rw [h] at h2; exact absurd h2 (Nat.lt_irrefl _)
      have nxb : ¬ M4.nxt = M4k11.nxt := fun h => by have h2 := kM4k11.1.lt xb; rw [h] at h2; exact absurd h2 (Nat.lt_irrefl _)
      repeat' (first | simp -implicitDefEqProofs only [go_sem])
      refine ACallK.of (ModelDo_impl _ _ m _ o _ (Own.rep om) (Own.rep oo) hl1 hl2).cl ?_
      rintro _ M4k12 ⟨⟨cr, vr, rfl, sM4k12, SR, TR, or1, or2, fr⟩, kM4k12⟩
      have zM4k12 : Sub G M4k12 := zM4k11.trans sM4k12
      have yM4k12 : Sub M4 M4k12 := yM4k11.trans sM4k12
      have eM4k12 : M4k11.nxt ≤ M4k12.nxt := sM4k12.1
      have bm := sM4k12.2 _ _ bm
      have bo := sM4k12.2 _ _ bo
      have x6 := sM4k12.2 _ _ x6
      have x10 := sM4k12.2 _ _ x10
      have xb := sM4k12.2 _ _ xb
      have om := Own.sub om sM4k12
      have oo := Own.sub oo sM4k12
      have nbm : ¬ H.nxt = M4k12.nxt := fun h => by have h2 := kM4k12.1.lt bm; rw [h] at h2; exact absurd h2 (Nat.lt_irrefl _)
      have nbo : ¬ (H.nxt + 1) = M4k12.nxt := fun h => by have h2 := kM4k12.1.lt bo; rw [h] at h2; exact absurd h2 (Nat.lt_irrefl _)
      have nx6 : ¬ b1 = M4k12.nxt := fun h => by have h2 := kM4k12.1.lt x6; rw [h] at h2; exact absurd h2 (Nat.lt_irrefl _)
      have nx10 : ¬ b2 = M4k12.nxt := fun h => by have h2 := kM4k12.1.lt x10; rw [h] at h2; exact absurd h2 (Nat.lt_irrefl _)
      have nxb : ¬ M4.nxt = M4k12.nxt := fun h => by have h2 := kM4k12.1.lt xb; rw [h] at h2; exact absurd h2 (Nat.lt_irrefl _)
      have nr : cr.length = 2 := Ob.len (Own.rep (W0 := W0) or1)
      have lr : cr.all leafA = true := Ob.leaf (Own.rep (W0 := W0) or1)
      repeat' (first | simp -implicitDefEqProofs only [go_sem] | (simp -implicitDefEqProofs only [bm, bo, x6, x10, xb, nbm, nbo, nx6, nx10, nxb, if_false, List.drop_zero, Nat.le_refl, q2, q3, q4, q6, q7, q8, q10, q12]) | (with_reducible refine And.intro nr ?_) | (with_reducible refine And.intro lr ?_) | (rw [wr_all _ _ (by rw [nr]; rfl)]))
      have hS : ∀ x ∈ SR ++ TR, x ≠ M4.nxt := fun x hx => by have := fr.2 x hx; omega
      have sb : Sub M4 M4k12 := yM4k12
      exact ⟨kM4k12.1.set (kM4k12.1.lt xb) _, sb.set k7.1 (by omega) _, (by intro x hx; simp only [List.mem_cons, List.not_mem_nil, or_false] at hx; rcases hx with rfl | rfl | rfl | rfl | rfl | rfl | rfl <;> simp -implicitDefEqProofs only [go_sem, q2, q3, q4, q6, q7, q8, q10, q12]), M4.nxt, cr, vr, SR, TR, (by simp -implicitDefEqProofs only [go_sem, q2, q3, q4, q6, q7, q8, q10, q12]), blk_set_self _ _ _, by omega, fun hm => hS _ hm rfl, (by simp -implicitDefEqProofs only [go_sem, q2, q3, q4, q6, q7, q8, q10, q12]), (by simp -implicitDefEqProofs only [go_sem, q2, q3, q4, q6, q7, q8, q10, q12]), Own.eq or1 (fun x hx => blk_set_ne _ (hS x (List.mem_append_left _ hx)) _), or2.setne (fun x hx => hS x (List.mem_append_right _ hx)), fr.le (by omega)⟩
  constructor
  intro e3 M5 hW3
  obtain ⟨w5, z5, keep3, b3, c3, v3, S5, T5, r16, x16, -, -, r17, r18, oh, ohv, -⟩ := hW3
  have r4 := keep3 (4, .v (.bool false)) (by simp)
  have r6 := keep3 (6, .ptr b1 0) (by simp)
  have r7 := keep3 (7, .v (.int .i64 (modelDo m o).2.1)) (by simp)
  have r8 := keep3 (8, v1) (by simp)
  have r10 := keep3 (10, .ptr b2 0) (by simp)
  have r12 := keep3 (12, v2) (by simp)
  have r14 := keep3 (14, .v (.int .i64 (1 + ((Mk.cnt (modelDo m o).1 : Nat) : Int) + ((cntL (modelDo m o).2.2 : Nat) : Int)))) (by simp)
  simp only at r4 r6 r7 r8 r10 r12 r14
  have x6 := z5.2 _ _ x6
  have x10 := z5.2 _ _ x10
  have yq := yq.trans z5
  have og' := Own.sub og' z5
  have ov' := ov'.sub z5
  have nc3 : c3.length = 2 := Ob.len (Own.rep (W0 := W0) oh)
  have tk5 : c3.take 2 = c3 := List.take_of_length_le (by omega)
  repeat' (first | simp -implicitDefEqProofs only [go_sem] | (simp -implicitDefEqProofs only [r4, r6, r7, r8, r10, r12, r14, r16, r17, r18, x6, x10, x16, nc2, tk3, nc1, tk1, nc3, tk5, List.drop_zero, Nat.le_refl]))
  refine ACallK.eq (eqModel_ok _ c3 c1 (modelDo m o).1 (modelDo m o).1 _ (Own.rep oh) (Ob.sub yq r1c)) ?_
  rw [decide_eq_true rfl]
  repeat' (first | simp -implicitDefEqProofs only [go_sem] | (simp -implicitDefEqProofs only [r4, r6, r7, r8, r10, r12, r14, r16, r17, r18, x6, x10, x16, nc2, tk3, nc1, tk1, nc3, tk5, List.drop_zero, Nat.le_refl]))
  refine ACallK.eq (eqRowS_ok _ v3 v1 (modelDo m o).2.2 (modelDo m o).2.2 _ ohv.slr (r1v.sub yq)) ?_
  rw [decide_eq_true rfl]
  repeat' (first | simp -implicitDefEqProofs only [go_sem] | (simp -implicitDefEqProofs only [r4, r6, r7, r8, r10, r12, r14, r16, r17, r18, x6, x10, x16, nc2, tk3, nc1, tk1, nc3, tk5, List.drop_zero, Nat.le_refl]))
  refine ACallK.eq (heldModel_ok _ c2 (modelDo m o).1 1 _ (Own.rep og') (by omega) (by omega)) ?_
  repeat' (first | simp -implicitDefEqProofs only [go_sem] | (simp -implicitDefEqProofs only [r4, r6, r7, r8, r10, r12, r14, r16, r17, r18, x6, x10, x16, nc2, tk3, nc1, tk1, nc3, tk5, List.drop_zero, Nat.le_refl]) | refine acond_decF (by omega) ?_)
  refine ACallK.eq (heldRowS_ok _ v2 (modelDo m o).2.2 (1 + ((Mk.cnt (modelDo m o).1 : Nat) : Int)) _ ov'.slr (by omega) (by omega)) ?_
  repeat' (first | simp -implicitDefEqProofs only [go_sem] | (simp -implicitDefEqProofs only [r4, r6, r7, r8, r10, r12, r14, r16, r17, r18, x6, x10, x16, nc2, tk3, nc1, tk1, nc3, tk5, List.drop_zero, Nat.le_refl]) | refine acond_decF (by omega) ?_)
  exact retK_one rfl
end Go.Proofs.Ytipfnhfcoolhaaa.Aw
