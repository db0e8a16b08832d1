/- Parts of a proof: Fmi Ms Wp. -/
import Derived.Test.YtipfnhfcoolhaaaGreatM09
import Derived.Test.YtipfnhfcoolhaaaGreatM03
set_option linter.unusedVariables false
set_option linter.unusedSimpArgs false
section
namespace Go.Proofs.YtipfnhfcoolhaaaGreat.Aw
open Go Go.RowKit
set_option maxRecDepth 100000
set_option maxHeartbeats 2000000
attribute [-go_sem] wr_eq
theorem recorded_end {H H1 : AH} {vk vr u : AV} {Sk Sr S1 : List Nat} {ks : List KRowD} {rs rs' : List RowD} {k : Int} (hw : H.wf) (hn : (Sk ++ Sr).Nodup) (f0 : OwnS H Sk vk ks) (f1 : OwnS H Sr vr rs) (o1 : OwnS H1 S1 u rs') (g1 : Upd Sr H H1 S1) (c1 : H1.wf) (hlt : H.nxt + 2 < H1.nxt) (hS1 : ∀ b ∈ S1, b < H.nxt ∨ H.nxt + 3 ≤ b) :
    retK H.nxt (((H1.set H.nxt ⟨[vk, u], 2⟩).new [] 10).set (H.nxt + 2) ⟨[vk, u], 2⟩) (fun v H' => ∃ cs' w S' T, v = .tup [.agg cs', .v (.int .i64 k), w] ∧ Own.own H' S' cs' (⟨ks, rs'⟩ : ModelD) ∧ OwnS H' T w ([] : List RowD) ∧ Upd (Sk ++ Sr) H H' (S' ++ T)) (some [.agg [vk, u], .v (.int .i64 k), .sl H1.nxt 0 0]) := by
  obtain ⟨n1, n2, n3⟩ := List.nodup_append.1 hn
  have hlk : ∀ b ∈ Sk, b < H.nxt := fun b hb => hw.lt' (f0.isin b hb)
  have hk1 : OwnS H1 Sk vk ks := g1.own f0 (fun b hb hm => n3 b hb b hm rfl)
  have g2 := g1.right hw (fun b hb => f0.isin b hb) hn
  have hS1l : ∀ b ∈ S1, b < H1.nxt := fun b hb => c1.lt' (o1.isin b hb)
  have ca : (H1.set H.nxt ⟨[vk, u], 2⟩).wf := fun b hb => by
    have hb : H1.nxt ≤ b := hb
    rw [blk_set_ne _ (by omega)]; exact c1 b hb
  have sn : Sub (H1.set H.nxt ⟨[vk, u], 2⟩) ((H1.set H.nxt ⟨[vk, u], 2⟩).new [] 10) := (Sub.refl _).new ca _ _
  refine retK_two ⟨_, _, Sk ++ S1, [H1.nxt], rfl, ModelD.own_mk ?_ ?_, ownNil ?_, ?_⟩
  · exact ((hk1.setne (fun b hb => by have := hlk b hb; omega)).sub sn).setne (fun b hb => by have := hlk b hb; omega)
  · exact ((o1.setne (fun b hb => by have := hS1 b hb; omega)).sub sn).setne (fun b hb => by have := hS1 b hb; omega)
  · rw [blk_set_ne _ (by omega)]; exact blk_new_self (H1.set H.nxt ⟨[vk, u], 2⟩) _ _
  · have g3 := ((g2.setNew hw (Nat.le_refl _) ⟨[vk, u], 2⟩).end sn).setNew hw (b := H.nxt + 2) (by omega) ⟨[vk, u], 2⟩
    refine ⟨g3.1, g3.2.1, fun b hb => ?_, List.nodup_append.2 ⟨g3.2.2.2, by simp, fun a ha b hb => ?_⟩⟩
    · rcases List.mem_append.1 hb with hb | hb
      · exact g3.2.2.1 b hb
      · simp at hb; exact .inr (by omega)
    · simp at hb
      rcases List.mem_append.1 ha with ha | ha
      · have := hlk a ha; omega
      · have := hS1l a ha; omega
theorem recorded_ok (W0 : World) (cs : List AV) (m : ModelD) (co : List AV) (o : OpD) (S : List Nat) (H : AH) (hm : Own.own H S cs m) (hn : S.Nodup) (ho : Ob.rep W0 H co o) (hl : m.rows.length ≤ 900) (hs : SortedK RowD.key m.rows) (hP : ¬ (modelRow m o.key).kind = 0 ∧ rowP (modelRow m o.key) ∧ 0 ≤ o.val ∧ o.val ≤ 65535) (hkey : (modelRow m o.key).key = o.key) :
    ACalls Tryz.prog W0 135 [.agg cs, .agg co] H (fun v H' => ∃ cs' u S' T, v = .tup [.agg cs', .v (.int .i64 (recDo m o).2), u] ∧ Own.own H' S' cs' (recDo m o).1 ∧ OwnS H' T u ([] : List RowD) ∧ Upd S H H' (S' ++ T)) := by
  refine acallw Tryz.func135 rfl (by kernel_rfl) (by kernel_rfl) fun hc hw => ?_
  have hrep := Own.rep (W0 := W0) hm
  have hm0 := hm
  obtain ⟨vk, vr, Sk, Sr, rfl, rfl, f0, f1⟩ := hm
  obtain ⟨rfl, q0, q1, q2, q3⟩ := ho
  have lk := f0.leaf
  have lr := f1.leaf
  have ck := f0.one
  have cr := f1.one
  have hlk : ∀ b ∈ Sk, b < H.nxt := fun b hb => hw.lt' (f0.isin b hb)
  have hlr : ∀ b ∈ Sr, b < H.nxt := fun b hb => hw.lt' (f1.isin b hb)
  have hB := modelRow_B hrep q1
  have hRD : recDo m o = (⟨m.keys, rowAnew m.rows (recRow (modelRow m o.key) o.val)⟩, recCode (modelRow m o.key)) := by unfold recDo; rw [if_neg hP.1]
  rw [hRD]
  obtain ⟨hk0, hP1, hP2⟩ := hP
  generalize hr : modelRow m o.key = r at *
  obtain ⟨n1, n2, n3⟩ := List.nodup_append.1 hn
  have hrB : rowB (recRow r o.val) := recRow_B hB hP2
  have hrk : ¬ (recRow r o.val).kind = 0 := by rw [(recRow_kind r o.val).2]; exact hk0
  have hrkey : (recRow r o.val).key = o.key := by rw [(recRow_kind r o.val).1]; exact hkey
  have hnf : ∀ h : m.rows.find? (fun x => decide (x.key = o.key)) = none, hasK RowD.key m.rows o.key = false := fun h => by
    simp only [hasK, List.any_eq_false]
    exact List.find?_eq_none.1 h
  rcases firstIdx_cases (fun x : RowD => decide (x.key = o.key)) m.rows with ⟨hfi, hfn⟩ | ⟨i, hi, hfi, hp, -, -⟩
  · have hnf := hnf hfn
    repeat' (first | simp -implicitDefEqProofs only [go_sem] | (refine ACallK.eq (ModelRow_impl _ _ m _ _ (Ob.sub (by repeat (first | exact Sub.refl _ | assumption | refine Sub.new (by assumption) ?_ _ _ | refine Sub.kill_new (by assumption) ?_ _ _ | refine Sub.trans ?_ (by assumption))) hrep)) ?_; rw [hr]; simp only [rowCells]) | (simp -implicitDefEqProofs only [lk, lr, wr_succ, wr_zero, wr_none, set_set, Bool.and_self]) | (refine ACallK.eq (Counted_impl _ _ r _ _ ⟨rfl, hB⟩) ?_) | (refine ACallK.eq (Sampled_impl _ _ r _ _ ⟨rfl, hB⟩) ?_) | (refine ACallK.eq (rowAt_ok _ vr m.rows o.key _ (SlR.sub (by repeat (first | exact Sub.refl _ | assumption | refine Sub.new hc.1 ?_ _ _ | refine Sub.set hc.1 ?_ (by omega) _ | refine Sub.trans ?_ (by assumption))) f1.slr)) ?_; rw [hfi]) | refine acond_dec (fun _ => ?_) (fun _ => ?_) | ((with_reducible refine adraw_plan [(0, []), (1, []), (2, []), (3, [0, 1]), (4, []), (5, [])] ?_ ?_ ?_); (· kernel_rfl); (· decide +kernel)))
    · have e1 : recRow r o.val = counted r o.val := by unfold recRow; rw [if_pos (by assumption)]
      have e2 : recCode r = 0 := by unfold recCode; rw [if_pos (.inl (by assumption))]
      rw [e1] at hrB hrk hrkey ⊢
      rw [e2]
      have hcall := put_ok W0 vr m.rows (counted r o.val) Sr
      simp only [rowCells] at hcall
      rw [show rowAnew m.rows (counted r o.val) = addRow m.rows (counted r o.val) by unfold rowAnew; rw [hrkey, butK_none hnf]]
      refine ACallK.upd (hcall _ ?_ n2 hs (by omega) hrB) hw (by repeat (first | exact Sub.refl _ | refine Sub.set hw ?_ (by omega) _ | refine Sub.new hw ?_ _ _)) hlr ?_
      · exact f1.sub (by repeat (first | exact Sub.refl _ | refine Sub.set hw ?_ (by omega) _ | refine Sub.new hw ?_ _ _))
      intro u H1 S1 c1 o1 g1 kp m1 hS1 kq
      have a1 := kp H.nxt _ (Nat.le_refl _) (by simp only [go_sem]; rfl)
      have b1 := kp (H.nxt + 2) _ (by omega) (by simp only [go_sem]; rfl)
      simp only [go_sem] at m1 hS1
      have u1 := o1.leaf
      have u2 := o1.one
      have e3 : ¬ H.nxt = H1.nxt := by omega
      have e4 : ¬ H.nxt + 2 = H1.nxt := by omega
      repeat' (first | simp -implicitDefEqProofs only [go_sem] | (simp -implicitDefEqProofs only [a1, b1, e3, e4, if_false, blk_set_self, u1, u2, lk, lr, ck, wr_succ, wr_zero, wr_none, set_set, Bool.and_self]))
      exact recorded_end hw hn f0 f1 o1 g1 c1 (by omega) (fun b hb => by have := hS1 b hb; omega)
    · have e1 : recRow r o.val = { r with set := true, last := o.val } := by unfold recRow; rw [if_neg (by assumption), if_pos (by assumption)]
      have e2 : recCode r = 0 := by unfold recCode; rw [if_pos (.inr (by assumption))]
      rw [e1] at hrB hrk hrkey ⊢
      rw [e2]
      have hcall := put_ok W0 vr m.rows ({ r with set := true, last := o.val }) Sr
      simp only [rowCells] at hcall
      rw [show rowAnew m.rows ({ r with set := true, last := o.val }) = addRow m.rows ({ r with set := true, last := o.val }) by unfold rowAnew; rw [hrkey, butK_none hnf]]
      refine ACallK.upd (hcall _ ?_ n2 hs (by omega) hrB) hw (by repeat (first | exact Sub.refl _ | refine Sub.set hw ?_ (by omega) _ | refine Sub.new hw ?_ _ _)) hlr ?_
      · exact f1.sub (by repeat (first | exact Sub.refl _ | refine Sub.set hw ?_ (by omega) _ | refine Sub.new hw ?_ _ _))
      intro u H1 S1 c1 o1 g1 kp m1 hS1 kq
      have a1 := kp H.nxt _ (Nat.le_refl _) (by simp only [go_sem]; rfl)
      have b1 := kp (H.nxt + 2) _ (by omega) (by simp only [go_sem]; rfl)
      simp only [go_sem] at m1 hS1
      have u1 := o1.leaf
      have u2 := o1.one
      have e3 : ¬ H.nxt = H1.nxt := by omega
      have e4 : ¬ H.nxt + 2 = H1.nxt := by omega
      repeat' (first | simp -implicitDefEqProofs only [go_sem] | (simp -implicitDefEqProofs only [a1, b1, e3, e4, if_false, blk_set_self, u1, u2, lk, lr, ck, wr_succ, wr_zero, wr_none, set_set, Bool.and_self]))
      exact recorded_end hw hn f0 f1 o1 g1 c1 (by omega) (fun b hb => by have := hS1 b hb; omega)
    · have e1 : recRow r o.val = sampled r o.val := by unfold recRow; rw [if_neg (by assumption), if_neg (by assumption)]
      have e2 : recCode r = 5 := by unfold recCode; rw [if_neg (by rintro (h | h) <;> simp_all), if_pos (by assumption)]
      rw [e1] at hrB hrk hrkey ⊢
      rw [e2]
      have hcall := put_ok W0 vr m.rows (sampled r o.val) Sr
      simp only [rowCells] at hcall
      rw [show rowAnew m.rows (sampled r o.val) = addRow m.rows (sampled r o.val) by unfold rowAnew; rw [hrkey, butK_none hnf]]
      refine ACallK.upd (hcall _ ?_ n2 hs (by omega) hrB) hw (by repeat (first | exact Sub.refl _ | refine Sub.set hw ?_ (by omega) _ | refine Sub.new hw ?_ _ _)) hlr ?_
      · exact f1.sub (by repeat (first | exact Sub.refl _ | refine Sub.set hw ?_ (by omega) _ | refine Sub.new hw ?_ _ _))
      intro u H1 S1 c1 o1 g1 kp m1 hS1 kq
      have a1 := kp H.nxt _ (Nat.le_refl _) (by simp only [go_sem]; rfl)
      have b1 := kp (H.nxt + 2) _ (by omega) (by simp only [go_sem]; rfl)
      simp only [go_sem] at m1 hS1
      have u1 := o1.leaf
      have u2 := o1.one
      have e3 : ¬ H.nxt = H1.nxt := by omega
      have e4 : ¬ H.nxt + 2 = H1.nxt := by omega
      repeat' (first | simp -implicitDefEqProofs only [go_sem] | (simp -implicitDefEqProofs only [a1, b1, e3, e4, if_false, blk_set_self, u1, u2, lk, lr, ck, wr_succ, wr_zero, wr_none, set_set, Bool.and_self]))
      exact recorded_end hw hn f0 f1 o1 g1 c1 (by omega) (fun b hb => by have := hS1 b hb; omega)
    · have e1 : recRow r o.val = sampled r o.val := by unfold recRow; rw [if_neg (by assumption), if_neg (by assumption)]
      have e2 : recCode r = 0 := by unfold recCode; rw [if_neg (by rintro (h | h) <;> simp_all), if_neg (by assumption)]
      rw [e1] at hrB hrk hrkey ⊢
      rw [e2]
      have hcall := put_ok W0 vr m.rows (sampled r o.val) Sr
      simp only [rowCells] at hcall
      rw [show rowAnew m.rows (sampled r o.val) = addRow m.rows (sampled r o.val) by unfold rowAnew; rw [hrkey, butK_none hnf]]
      refine ACallK.upd (hcall _ ?_ n2 hs (by omega) hrB) hw (by repeat (first | exact Sub.refl _ | refine Sub.set hw ?_ (by omega) _ | refine Sub.new hw ?_ _ _)) hlr ?_
      · exact f1.sub (by repeat (first | exact Sub.refl _ | refine Sub.set hw ?_ (by omega) _ | refine Sub.new hw ?_ _ _))
      intro u H1 S1 c1 o1 g1 kp m1 hS1 kq
      have a1 := kp H.nxt _ (Nat.le_refl _) (by simp only [go_sem]; rfl)
      have b1 := kp (H.nxt + 2) _ (by omega) (by simp only [go_sem]; rfl)
      simp only [go_sem] at m1 hS1
      have u1 := o1.leaf
      have u2 := o1.one
      have e3 : ¬ H.nxt = H1.nxt := by omega
      have e4 : ¬ H.nxt + 2 = H1.nxt := by omega
      repeat' (first | simp -implicitDefEqProofs only [go_sem] | (simp -implicitDefEqProofs only [a1, b1, e3, e4, if_false, blk_set_self, u1, u2, lk, lr, ck, wr_succ, wr_zero, wr_none, set_set, Bool.and_self]))
      exact recorded_end hw hn f0 f1 o1 g1 c1 (by omega) (fun b hb => by have := hS1 b hb; omega)
  · have hp := of_decide_eq_true hp
    repeat' (first | simp -implicitDefEqProofs only [go_sem] | (refine ACallK.eq (ModelRow_impl _ _ m _ _ (Ob.sub (by repeat (first | exact Sub.refl _ | assumption | refine Sub.new (by assumption) ?_ _ _ | refine Sub.kill_new (by assumption) ?_ _ _ | refine Sub.trans ?_ (by assumption))) hrep)) ?_; rw [hr]; simp only [rowCells]) | (simp -implicitDefEqProofs only [lk, lr, wr_succ, wr_zero, wr_none, set_set, Bool.and_self]) | (refine ACallK.eq (Counted_impl _ _ r _ _ ⟨rfl, hB⟩) ?_) | (refine ACallK.eq (Sampled_impl _ _ r _ _ ⟨rfl, hB⟩) ?_) | (refine ACallK.eq (rowAt_ok _ vr m.rows o.key _ (SlR.sub (by repeat (first | exact Sub.refl _ | assumption | refine Sub.new hc.1 ?_ _ _ | refine Sub.set hc.1 ?_ (by omega) _ | refine Sub.trans ?_ (by assumption))) f1.slr)) ?_; rw [hfi]) | refine acond_decT (by omega) ?_ | refine acond_dec (fun _ => ?_) (fun _ => ?_) | simp -implicitDefEqProofs (disch := omega) only [wrap_in, u8_small, Int.tmod_eq_emod_of_nonneg, Int.tdiv_eq_ediv_of_nonneg] | ((with_reducible refine adraw_plan [(0, []), (1, []), (2, []), (3, [0, 1]), (4, []), (5, [])] ?_ ?_ ?_); (· kernel_rfl); (· decide +kernel)))
    · have e1 : recRow r o.val = counted r o.val := by unfold recRow; rw [if_pos (by assumption)]
      have e2 : recCode r = 0 := by unfold recCode; rw [if_pos (.inl (by assumption))]
      rw [e1] at hrB hrk hrkey ⊢
      rw [e2]
      have hd := DeleteRow_ok W0 vr m.rows i Sr
      rw [show ((i + 1 : Nat) : Int) = (i : Int) + 1 by omega] at hd
      refine ACallK.upd (hd _ ?_ hi (by omega)) hw (by repeat (first | exact Sub.refl _ | refine Sub.set hw ?_ (by omega) _ | refine Sub.new hw ?_ _ _)) hlr ?_
      · exact f1.sub (by repeat (first | exact Sub.refl _ | refine Sub.set hw ?_ (by omega) _ | refine Sub.new hw ?_ _ _))
      intro u H1 S1 c1 o1 g1 kp m1 hS1 kq
      have a1 := kp H.nxt _ (Nat.le_refl _) (by simp only [go_sem]; rfl)
      have b1 := kp (H.nxt + 2) _ (by omega) (by simp only [go_sem]; rfl)
      have r1 := kp (H.nxt + 3) _ (by omega) (by simp only [go_sem]; rfl)
      simp only [go_sem] at m1 hS1
      have u1 := o1.leaf
      have u2 := o1.one
      rw [← butK_at hs hi hp] at o1
      repeat' (first | simp -implicitDefEqProofs only [go_sem] | (simp -implicitDefEqProofs only [a1, b1, r1, blk_set_self, u1, u2, lk, lr, ck, wr_succ, wr_zero, wr_none, set_set, Bool.and_self]))
      have hcall := put_ok W0 u (butK RowD.key m.rows o.key) (counted r o.val) S1
      simp only [rowCells] at hcall
      have hw2 : (H1.set H.nxt ⟨[vk, u], 2⟩).wf := c1.set (c1.lt a1) _
      refine ACallK.upd (H0 := H1.set H.nxt ⟨[vk, u], 2⟩) (hcall _ ?_ g1.2.2.2 (hs.filter _) (by have := List.length_filter_le (fun x => !decide (RowD.key x = o.key)) m.rows; unfold butK; omega) hrB) hw2 (Sub.refl _) (fun b hb => c1.lt' (o1.isin b hb)) ?_
      · exact o1.setne (fun b hb => by have := hS1 b hb; omega)
      intro v2 H2 S2 c2 o2 g2 kp2 m2 hS2 kq2
      rw [← show rowAnew m.rows (counted r o.val) = addRow (butK RowD.key m.rows o.key) (counted r o.val) by unfold rowAnew; rw [hrkey]] at o2
      have a2 := kq2 H.nxt _ (fun hm => by have := hS1 _ hm; omega) (blk_set_self _ _ _)
      have b2 := kq2 (H.nxt + 2) _ (fun hm => by have := hS1 _ hm; omega) (by rw [blk_set_ne _ (by omega)]; exact b1)
      have g3 := (g1.setNew hw (Nat.le_refl _) ⟨[vk, u], 2⟩).trans hw g2
      have v2a := o2.leaf
      have v2b := o2.one
      simp only [go_sem] at m2 hS2
      have e3 : ¬ H.nxt = H2.nxt := by omega
      have e4 : ¬ H.nxt + 2 = H2.nxt := by omega
      repeat' (first | simp -implicitDefEqProofs only [go_sem] | (simp -implicitDefEqProofs only [a2, b2, e3, e4, if_false, blk_set_self, v2a, v2b, lk, lr, ck, wr_succ, wr_zero, wr_none, set_set, Bool.and_self]))
      exact recorded_end hw hn f0 f1 o2 g3 c2 (by omega) (fun b hb => by
        rcases g2.2.2.1 b hb with h | h
        · have := hS1 b h; omega
        · simp only [go_sem] at h; omega)
    · have e1 : recRow r o.val = { r with set := true, last := o.val } := by unfold recRow; rw [if_neg (by assumption), if_pos (by assumption)]
      have e2 : recCode r = 0 := by unfold recCode; rw [if_pos (.inr (by assumption))]
      rw [e1] at hrB hrk hrkey ⊢
      rw [e2]
      have hd := DeleteRow_ok W0 vr m.rows i Sr
      rw [show ((i + 1 : Nat) : Int) = (i : Int) + 1 by omega] at hd
      refine ACallK.upd (hd _ ?_ hi (by omega)) hw (by repeat (first | exact Sub.refl _ | refine Sub.set hw ?_ (by omega) _ | refine Sub.new hw ?_ _ _)) hlr ?_
      · exact f1.sub (by repeat (first | exact Sub.refl _ | refine Sub.set hw ?_ (by omega) _ | refine Sub.new hw ?_ _ _))
      intro u H1 S1 c1 o1 g1 kp m1 hS1 kq
      have a1 := kp H.nxt _ (Nat.le_refl _) (by simp only [go_sem]; rfl)
      have b1 := kp (H.nxt + 2) _ (by omega) (by simp only [go_sem]; rfl)
      have r1 := kp (H.nxt + 3) _ (by omega) (by simp only [go_sem]; rfl)
      simp only [go_sem] at m1 hS1
      have u1 := o1.leaf
      have u2 := o1.one
      rw [← butK_at hs hi hp] at o1
      repeat' (first | simp -implicitDefEqProofs only [go_sem] | (simp -implicitDefEqProofs only [a1, b1, r1, blk_set_self, u1, u2, lk, lr, ck, wr_succ, wr_zero, wr_none, set_set, Bool.and_self]))
      have hcall := put_ok W0 u (butK RowD.key m.rows o.key) ({ r with set := true, last := o.val }) S1
      simp only [rowCells] at hcall
      have hw2 : (H1.set H.nxt ⟨[vk, u], 2⟩).wf := c1.set (c1.lt a1) _
      refine ACallK.upd (H0 := H1.set H.nxt ⟨[vk, u], 2⟩) (hcall _ ?_ g1.2.2.2 (hs.filter _) (by have := List.length_filter_le (fun x => !decide (RowD.key x = o.key)) m.rows; unfold butK; omega) hrB) hw2 (Sub.refl _) (fun b hb => c1.lt' (o1.isin b hb)) ?_
      · exact o1.setne (fun b hb => by have := hS1 b hb; omega)
      intro v2 H2 S2 c2 o2 g2 kp2 m2 hS2 kq2
      rw [← show rowAnew m.rows ({ r with set := true, last := o.val }) = addRow (butK RowD.key m.rows o.key) ({ r with set := true, last := o.val }) by unfold rowAnew; rw [hrkey]] at o2
      have a2 := kq2 H.nxt _ (fun hm => by have := hS1 _ hm; omega) (blk_set_self _ _ _)
      have b2 := kq2 (H.nxt + 2) _ (fun hm => by have := hS1 _ hm; omega) (by rw [blk_set_ne _ (by omega)]; exact b1)
      have g3 := (g1.setNew hw (Nat.le_refl _) ⟨[vk, u], 2⟩).trans hw g2
      have v2a := o2.leaf
      have v2b := o2.one
      simp only [go_sem] at m2 hS2
      have e3 : ¬ H.nxt = H2.nxt := by omega
      have e4 : ¬ H.nxt + 2 = H2.nxt := by omega
      repeat' (first | simp -implicitDefEqProofs only [go_sem] | (simp -implicitDefEqProofs only [a2, b2, e3, e4, if_false, blk_set_self, v2a, v2b, lk, lr, ck, wr_succ, wr_zero, wr_none, set_set, Bool.and_self]))
      exact recorded_end hw hn f0 f1 o2 g3 c2 (by omega) (fun b hb => by
        rcases g2.2.2.1 b hb with h | h
        · have := hS1 b h; omega
        · simp only [go_sem] at h; omega)
    · have e1 : recRow r o.val = sampled r o.val := by unfold recRow; rw [if_neg (by assumption), if_neg (by assumption)]
      have e2 : recCode r = 5 := by unfold recCode; rw [if_neg (by rintro (h | h) <;> simp_all), if_pos (by assumption)]
      rw [e1] at hrB hrk hrkey ⊢
      rw [e2]
      have hd := DeleteRow_ok W0 vr m.rows i Sr
      rw [show ((i + 1 : Nat) : Int) = (i : Int) + 1 by omega] at hd
      refine ACallK.upd (hd _ ?_ hi (by omega)) hw (by repeat (first | exact Sub.refl _ | refine Sub.set hw ?_ (by omega) _ | refine Sub.new hw ?_ _ _)) hlr ?_
      · exact f1.sub (by repeat (first | exact Sub.refl _ | refine Sub.set hw ?_ (by omega) _ | refine Sub.new hw ?_ _ _))
      intro u H1 S1 c1 o1 g1 kp m1 hS1 kq
      have a1 := kp H.nxt _ (Nat.le_refl _) (by simp only [go_sem]; rfl)
      have b1 := kp (H.nxt + 2) _ (by omega) (by simp only [go_sem]; rfl)
      have r1 := kp (H.nxt + 3) _ (by omega) (by simp only [go_sem]; rfl)
      simp only [go_sem] at m1 hS1
      have u1 := o1.leaf
      have u2 := o1.one
      rw [← butK_at hs hi hp] at o1
      repeat' (first | simp -implicitDefEqProofs only [go_sem] | (simp -implicitDefEqProofs only [a1, b1, r1, blk_set_self, u1, u2, lk, lr, ck, wr_succ, wr_zero, wr_none, set_set, Bool.and_self]))
      have hcall := put_ok W0 u (butK RowD.key m.rows o.key) (sampled r o.val) S1
      simp only [rowCells] at hcall
      have hw2 : (H1.set H.nxt ⟨[vk, u], 2⟩).wf := c1.set (c1.lt a1) _
      refine ACallK.upd (H0 := H1.set H.nxt ⟨[vk, u], 2⟩) (hcall _ ?_ g1.2.2.2 (hs.filter _) (by have := List.length_filter_le (fun x => !decide (RowD.key x = o.key)) m.rows; unfold butK; omega) hrB) hw2 (Sub.refl _) (fun b hb => c1.lt' (o1.isin b hb)) ?_
      · exact o1.setne (fun b hb => by have := hS1 b hb; omega)
      intro v2 H2 S2 c2 o2 g2 kp2 m2 hS2 kq2
      rw [← show rowAnew m.rows (sampled r o.val) = addRow (butK RowD.key m.rows o.key) (sampled r o.val) by unfold rowAnew; rw [hrkey]] at o2
      have a2 := kq2 H.nxt _ (fun hm => by have := hS1 _ hm; omega) (blk_set_self _ _ _)
      have b2 := kq2 (H.nxt + 2) _ (fun hm => by have := hS1 _ hm; omega) (by rw [blk_set_ne _ (by omega)]; exact b1)
      have g3 := (g1.setNew hw (Nat.le_refl _) ⟨[vk, u], 2⟩).trans hw g2
      have v2a := o2.leaf
      have v2b := o2.one
      simp only [go_sem] at m2 hS2
      have e3 : ¬ H.nxt = H2.nxt := by omega
      have e4 : ¬ H.nxt + 2 = H2.nxt := by omega
      repeat' (first | simp -implicitDefEqProofs only [go_sem] | (simp -implicitDefEqProofs only [a2, b2, e3, e4, if_false, blk_set_self, v2a, v2b, lk, lr, ck, wr_succ, wr_zero, wr_none, set_set, Bool.and_self]))
      exact recorded_end hw hn f0 f1 o2 g3 c2 (by omega) (fun b hb => by
        rcases g2.2.2.1 b hb with h | h
        · have := hS1 b h; omega
        · simp only [go_sem] at h; omega)
    · have e1 : recRow r o.val = sampled r o.val := by unfold recRow; rw [if_neg (by assumption), if_neg (by assumption)]
      have e2 : recCode r = 0 := by unfold recCode; rw [if_neg (by rintro (h | h) <;> simp_all), if_neg (by assumption)]
      rw [e1] at hrB hrk hrkey ⊢
      rw [e2]
      have hd := DeleteRow_ok W0 vr m.rows i Sr
      rw [show ((i + 1 : Nat) : Int) = (i : Int) + 1 by omega] at hd
      refine ACallK.upd (hd _ ?_ hi (by omega)) hw (by repeat (first | exact Sub.refl _ | refine Sub.set hw ?_ (by omega) _ | refine Sub.new hw ?_ _ _)) hlr ?_
      · exact f1.sub (by repeat (first | exact Sub.refl _ | refine Sub.set hw ?_ (by omega) _ | refine Sub.new hw ?_ _ _))
      intro u H1 S1 c1 o1 g1 kp m1 hS1 kq
      have a1 := kp H.nxt _ (Nat.le_refl _) (by simp only [go_sem]; rfl)
      have b1 := kp (H.nxt + 2) _ (by omega) (by simp only [go_sem]; rfl)
      have r1 := kp (H.nxt + 3) _ (by omega) (by simp only [go_sem]; rfl)
      simp only [go_sem] at m1 hS1
      have u1 := o1.leaf
      have u2 := o1.one
      rw [← butK_at hs hi hp] at o1
      repeat' (first | simp -implicitDefEqProofs only [go_sem] | (simp -implicitDefEqProofs only [a1, b1, r1, blk_set_self, u1, u2, lk, lr, ck, wr_succ, wr_zero, wr_none, set_set, Bool.and_self]))
      have hcall := put_ok W0 u (butK RowD.key m.rows o.key) (sampled r o.val) S1
      simp only [rowCells] at hcall
      have hw2 : (H1.set H.nxt ⟨[vk, u], 2⟩).wf := c1.set (c1.lt a1) _
      refine ACallK.upd (H0 := H1.set H.nxt ⟨[vk, u], 2⟩) (hcall _ ?_ g1.2.2.2 (hs.filter _) (by have := List.length_filter_le (fun x => !decide (RowD.key x = o.key)) m.rows; unfold butK; omega) hrB) hw2 (Sub.refl _) (fun b hb => c1.lt' (o1.isin b hb)) ?_
      · exact o1.setne (fun b hb => by have := hS1 b hb; omega)
      intro v2 H2 S2 c2 o2 g2 kp2 m2 hS2 kq2
      rw [← show rowAnew m.rows (sampled r o.val) = addRow (butK RowD.key m.rows o.key) (sampled r o.val) by unfold rowAnew; rw [hrkey]] at o2
      have a2 := kq2 H.nxt _ (fun hm => by have := hS1 _ hm; omega) (blk_set_self _ _ _)
      have b2 := kq2 (H.nxt + 2) _ (fun hm => by have := hS1 _ hm; omega) (by rw [blk_set_ne _ (by omega)]; exact b1)
      have g3 := (g1.setNew hw (Nat.le_refl _) ⟨[vk, u], 2⟩).trans hw g2
      have v2a := o2.leaf
      have v2b := o2.one
      simp only [go_sem] at m2 hS2
      have e3 : ¬ H.nxt = H2.nxt := by omega
      have e4 : ¬ H.nxt + 2 = H2.nxt := by omega
      repeat' (first | simp -implicitDefEqProofs only [go_sem] | (simp -implicitDefEqProofs only [a2, b2, e3, e4, if_false, blk_set_self, v2a, v2b, lk, lr, ck, wr_succ, wr_zero, wr_none, set_set, Bool.and_self]))
      exact recorded_end hw hn f0 f1 o2 g3 c2 (by omega) (fun b hb => by
        rcases g2.2.2.1 b hb with h | h
        · have := hS1 b h; omega
        · simp only [go_sem] at h; omega)
theorem ModelDo_impl (W0 : World) (cs : List AV) (m : ModelD) (co : List AV) (o : OpD) (H : AH) (hm : Ob.rep W0 H cs m) (ho : Ob.rep W0 H co o) (h1 : m.keys.length ≤ 1000000000) (h2 : m.rows.length ≤ 1000000000) :
    ACalls Tryz.prog W0 53 [.agg cs, .agg co] H (MdR W0 H m o) := by
  refine acallw Tryz.func53 rfl (by kernel_rfl) (by kernel_rfl) fun hc hw => ?_
  have hm0 := hm
  have ho0 := ho
  obtain ⟨vk, vr, rfl, f0, f1⟩ := hm
  obtain ⟨rfl, q0, q1, q2, q3⟩ := ho
  repeat' (first | simp -implicitDefEqProofs only [go_sem])
  refine ACallK.of (modelCopy_ok _ _ m _ (Ob.sub (by repeat (first | exact Sub.refl _ | assumption | refine Sub.new (by assumption) ?_ _ _ | refine Sub.kill_new (by assumption) ?_ _ _ | refine Sub.trans ?_ (by assumption))) hm0) h1 h2).cl ?_
  rintro _ H1 ⟨⟨s1, S1, c1, rfl, o1, F1⟩, k1⟩
  have hw1 := k1.1
  have z1 : Sub H H1 := (((Sub.new hw (Sub.refl _) _ _).trans ((Sub.refl _).new (hw.new _ _) _ _)).trans ((Sub.refl _).new ((hw.new _ _).new _ _) _ _)).trans s1
  have a0 := s1.2 H.nxt _ (by simp only [go_sem]; rfl)
  have a1 := s1.2 (H.nxt + 1) _ (by simp only [go_sem]; rfl)
  have a2 := s1.2 (H.nxt + 2) _ (by simp only [go_sem]; rfl)
  have n1 := s1.1; simp only [go_sem] at n1
  have hS1 : ∀ b ∈ S1, H.nxt + 3 ≤ b ∧ b < H1.nxt := fun b hb => ⟨by have := F1.2 b hb; simpa only [go_sem] using this, hw1.lt' (Own.isin o1 b hb)⟩
  have o1' := o1
  obtain ⟨uk, ur, Sk, Sr, rfl, rfl, g0, g1⟩ := o1'
  have lk := g0.leaf
  have lr := g1.leaf
  have ck := g0.one
  have cr := g1.one
  have e0 : ¬ H.nxt = H1.nxt := by omega
  have e1 : ¬ H.nxt + 1 = H1.nxt := by omega
  have e2 : ¬ H.nxt + 2 = H1.nxt := by omega
  have e2' : ¬ H1.nxt = H.nxt + 2 := by omega
  repeat' (first | simp -implicitDefEqProofs only [go_sem] | (simp -implicitDefEqProofs only [a0, a1, a2, e0, e1, e2, e2', if_false, lk, lr, ck, cr, wr_succ, wr_zero, wr_none, set_set, Bool.and_self]) | (refine ACallK.eq (ModelOk_impl _ _ m _ (Ob.sub' hm0)) ?_) | (refine ACallK.eq (OpOk_impl _ _ o _ (Ob.sub' ho0)) ?_) | (refine ACallK.eq (ModelKind_impl _ _ m _ _ (Ob.sub' hm0)) ?_) | (refine abi_len_sl' f0 ?_) | refine acond_decF (by omega) ?_ | refine acond_decT (by omega) ?_ | refine acond_dec (fun _ => ?_) (fun _ => ?_) | refine acond_ndec (fun _ => ?_) (fun _ => ?_) | refine agrd_dec (fun _ => ?_) (fun _ => ?_) | ((with_reducible refine adraw_plan [(0, []), (1, []), (2, []), (3, []), (4, []), (5, [3, 4]), (6, []), (7, [])] ?_ ?_ ?_); (· kernel_rfl); (· decide +kernel)) | refine acond_split (fun _ => ?_) (fun _ => ?_) | refine agrd_bf (fun _ => ?_) (fun _ => ?_))
  · have hMD : modelDo m o = (m, 1, []) := modelDo_bad (by simp_all)
    have ox : Own.own ((H1.new [uk, ur] 2).new [] 10) (Sk ++ Sr) [uk, ur] m := Own.sub o1 (((Sub.refl _).new hw1 _ _).trans ((Sub.refl _).new (hw1.new _ _) _ _))
    refine retK_two ⟨_, _, by rw [hMD], by repeat (first | exact Sub.refl _ | assumption | refine Sub.new hc.1 ?_ _ _ | refine Sub.set hc.1 ?_ (by omega) _ | refine Sub.trans ?_ (by assumption)), Sk ++ Sr, [H1.nxt + 1], ?_, ?_, ?_⟩
    · rw [hMD]; exact Own.eq ox (fun b hb => blk_set_ne _ (by have := hS1 b hb; omega) _)
    · rw [hMD]; exact ownNil (by rw [blk_set_ne _ (by omega)]; simp only [go_sem]; rfl)
    · exact Fresh.app (F1.le (by simp only [go_sem]; omega)) ⟨by simp, by intro b hb; simp at hb; omega⟩ (fun b hb hc => by have := hS1 b hb; simp at hc; omega)
  · have hg : modelOk m = true ∧ opOk o = true := by simp_all
    have hMD := modelDo_flu hg (by assumption)
    have sx : Sub H1 (H1.new [uk, ur] 2) := (Sub.refl _).new hw1 _ _
    obtain ⟨F2, F3, F4⟩ := List.nodup_append.1 F1.1
    refine retK_two ⟨_, _, by rw [hMD], by repeat (first | exact Sub.refl _ | assumption | refine Sub.new hc.1 ?_ _ _ | refine Sub.set hc.1 ?_ (by omega) _ | refine Sub.trans ?_ (by assumption)), Sk, Sr, ?_, ?_, F1.le (by simp only [go_sem]; omega)⟩
    · rw [hMD]
      have := ModelD.own_mk (H := (H1.new [uk, ur] 2).set (H.nxt + 2) ⟨[uk, .v (.slice none 0 0)], 2⟩) (S := Sk) (T := []) (rs := []) ((g0.sub sx).setne (fun b hb => by have := hS1 b (List.mem_append_left _ hb); omega)) (.inl ⟨rfl, rfl, rfl⟩)
      rwa [List.append_nil] at this
    · rw [hMD]; exact (g1.sub sx).setne (fun b hb => by have := hS1 b (List.mem_append_right _ hb); omega)
  · have hMD : modelDo m o = (m, 2, []) := by unfold modelDo; simp_all
    have ox : Own.own ((H1.new [uk, ur] 2).new [] 10) (Sk ++ Sr) [uk, ur] m := Own.sub o1 (((Sub.refl _).new hw1 _ _).trans ((Sub.refl _).new (hw1.new _ _) _ _))
    refine retK_two ⟨_, _, by rw [hMD], by repeat (first | exact Sub.refl _ | assumption | refine Sub.new hc.1 ?_ _ _ | refine Sub.set hc.1 ?_ (by omega) _ | refine Sub.trans ?_ (by assumption)), Sk ++ Sr, [H1.nxt + 1], ?_, ?_, ?_⟩
    · rw [hMD]; exact Own.eq ox (fun b hb => blk_set_ne _ (by have := hS1 b hb; omega) _)
    · rw [hMD]; exact ownNil (by rw [blk_set_ne _ (by omega)]; simp only [go_sem]; rfl)
    · exact Fresh.app (F1.le (by simp only [go_sem]; omega)) ⟨by simp, by intro b hb; simp at hb; omega⟩ (fun b hb hc => by have := hS1 b hb; simp at hc; omega)
  · have hg : modelOk m = true ∧ opOk o = true := by simp_all
    have hmo := (modelOk_iff.1 hg.1)
    have hl2 : m.rows.length ≤ 900 := by have := (reportOk_iff.1 hmo.2.2).2.1; omega
    have hMD := modelDo_rec hg (by assumption)
    have hmr := modelRow_ok hg.1 (by assumption)
    refine ACallK.upd (S := Sk ++ Sr) (H0 := H1) (R := fun v H' S' => ∃ cs' u S2 T, S' = S2 ++ T ∧ v = .tup [.agg cs', .v (.int .i64 (recDo m o).2), u] ∧ Own.own H' S2 cs' (recDo m o).1 ∧ OwnS H' T u ([] : List RowD)) ?_ hw1 ((Sub.refl _).new hw1 _ _) (fun b hb => (hS1 b hb).2) ?_
    · exact (recorded_ok _ _ m _ o (Sk ++ Sr) _ (Own.sub o1 ((Sub.refl _).new hw1 _ _)) F1.1 (Ob.sub' ho0) hl2 (reportOk_iff.1 hmo.2.2).1 ⟨by rw [hmr.2.1]; assumption, hmr.2.2, opOk_val hg.2 (by assumption)⟩ hmr.1).mono fun v H' ⟨cs', u, S2, T, h1, h2, h3, h4⟩ => ⟨S2 ++ T, ⟨cs', u, S2, T, rfl, h1, h2, h3⟩, h4⟩
    rintro _ H2 _ c2 ⟨cs2, u, S2, T, rfl, rfl, o2, o3⟩ g2 kp m2 hS2 kq
    have b2 := kq (H.nxt + 2) _ (fun hm => by have := hS1 _ hm; omega) (by simp only [go_sem, if_neg e2]; exact a2)
    simp only [go_sem] at m2 hS2
    have z2 := g2.sub hw z1 (fun b hb => by have := hS1 b hb; omega)
    have hS3 : ∀ b ∈ S2 ++ T, H.nxt + 3 ≤ b := fun b hb => by
      rcases g2.2.2.1 b hb with h | h
      · exact (hS1 b h).1
      · omega
    obtain ⟨yk, yr, Tk, Tr, rfl, rfl, y0, y1⟩ := o2
    have yk1 := y0.leaf
    have yk2 := y0.one
    have yr1 := y1.leaf
    have yr2 := y1.one
    repeat' (first | simp -implicitDefEqProofs only [go_sem] | (simp -implicitDefEqProofs only [b2, yk1, yk2, yr1, yr2, lk, lr, ck, cr, wr_succ, wr_zero, wr_none, set_set, blk_set_self, Bool.and_self]))
    refine retK_two ⟨_, _, by rw [hMD], ?_, Tk ++ Tr, T, ?_, ?_, g2.2.2.2, z2.2⟩
    · refine Sub.set hc.1 z2.1 ?_ _; omega
    · rw [hMD]
      exact ModelD.own_mk (y0.setne (fun b hb => by have := hS3 b (List.mem_append_left _ (List.mem_append_left _ hb)); omega)) (y1.setne (fun b hb => by have := hS3 b (List.mem_append_left _ (List.mem_append_right _ hb)); omega))
    · rw [hMD]; exact o3.setne (fun b hb => by have := hS3 b (List.mem_append_right _ hb); omega)
  · have hMD : modelDo m o = (m, 0, []) := by unfold modelDo; simp_all
    have ox : Own.own ((H1.new [uk, ur] 2).new [] 10) (Sk ++ Sr) [uk, ur] m := Own.sub o1 (((Sub.refl _).new hw1 _ _).trans ((Sub.refl _).new (hw1.new _ _) _ _))
    refine retK_two ⟨_, _, by rw [hMD], by repeat (first | exact Sub.refl _ | assumption | refine Sub.new hc.1 ?_ _ _ | refine Sub.set hc.1 ?_ (by omega) _ | refine Sub.trans ?_ (by assumption)), Sk ++ Sr, [H1.nxt + 1], ?_, ?_, ?_⟩
    · rw [hMD]; exact Own.eq ox (fun b hb => blk_set_ne _ (by have := hS1 b hb; omega) _)
    · rw [hMD]; exact ownNil (by rw [blk_set_ne _ (by omega)]; simp only [go_sem]; rfl)
    · exact Fresh.app (F1.le (by simp only [go_sem]; omega)) ⟨by simp, by intro b hb; simp at hb; omega⟩ (fun b hb hc => by have := hS1 b hb; simp at hc; omega)
  · have hMD : modelDo m o = (m, 4, []) := by unfold modelDo; simp_all
    have ox : Own.own ((H1.new [uk, ur] 2).new [] 10) (Sk ++ Sr) [uk, ur] m := Own.sub o1 (((Sub.refl _).new hw1 _ _).trans ((Sub.refl _).new (hw1.new _ _) _ _))
    refine retK_two ⟨_, _, by rw [hMD], by repeat (first | exact Sub.refl _ | assumption | refine Sub.new hc.1 ?_ _ _ | refine Sub.set hc.1 ?_ (by omega) _ | refine Sub.trans ?_ (by assumption)), Sk ++ Sr, [H1.nxt + 1], ?_, ?_, ?_⟩
    · rw [hMD]; exact Own.eq ox (fun b hb => blk_set_ne _ (by have := hS1 b hb; omega) _)
    · rw [hMD]; exact ownNil (by rw [blk_set_ne _ (by omega)]; simp only [go_sem]; rfl)
    · exact Fresh.app (F1.le (by simp only [go_sem]; omega)) ⟨by simp, by intro b hb; simp at hb; omega⟩ (fun b hb hc => by have := hS1 b hb; simp at hc; omega)
  · have hMD : modelDo m o = (m, 3, []) := by unfold modelDo; simp_all
    have ox : Own.own ((H1.new [uk, ur] 2).new [] 10) (Sk ++ Sr) [uk, ur] m := Own.sub o1 (((Sub.refl _).new hw1 _ _).trans ((Sub.refl _).new (hw1.new _ _) _ _))
    refine retK_two ⟨_, _, by rw [hMD], by repeat (first | exact Sub.refl _ | assumption | refine Sub.new hc.1 ?_ _ _ | refine Sub.set hc.1 ?_ (by omega) _ | refine Sub.trans ?_ (by assumption)), Sk ++ Sr, [H1.nxt + 1], ?_, ?_, ?_⟩
    · rw [hMD]; exact Own.eq ox (fun b hb => blk_set_ne _ (by have := hS1 b hb; omega) _)
    · rw [hMD]; exact ownNil (by rw [blk_set_ne _ (by omega)]; simp only [go_sem]; rfl)
    · exact Fresh.app (F1.le (by simp only [go_sem]; omega)) ⟨by simp, by intro b hb; simp at hb; omega⟩ (fun b hb hc => by have := hS1 b hb; simp at hc; omega)
  · have hg : modelOk m = true ∧ opOk o = true := by simp_all
    have hmo := (modelOk_iff.1 hg.1)
    have hz : modelKind m o.key = 0 := by simp_all
    have hMD : modelDo m o = (⟨insK KRowD.key m.keys ⟨o.key, o.what⟩, m.rows⟩, 0, []) := by unfold modelDo; simp_all
    have hl1 : m.keys.length ≤ 1000000 := by have := hmo.1.2.1; omega
    have hn0 : hasK KRowD.key m.keys o.key = false := by
      simp only [hasK, List.any_eq_false]
      exact List.find?_eq_none.1 (modelKind_none hg.1 hz)
    refine acode_while (fun i : Nat => [(2, .ptr H.nxt 0), (3, .ptr (H.nxt + 1) 0), (4, .ptr (H.nxt + 2) 0), (7, .ptr H1.nxt 0), (9, .v (.int .i64 i))]) (fun i H' => H' = H1.new [uk, ur] 2 ∧ i ≤ m.keys.length ∧ ∀ k (h : k < m.keys.length), k < i → klt m.keys[k].key o.key) (fun i => m.keys.length - i) 0 ⟨rfl, by omega, fun k h hk => by omega⟩ ?_
    rintro i _ ⟨rfl, hi, hP⟩
    repeat' (first | simp -implicitDefEqProofs only [go_sem] | (simp -implicitDefEqProofs only [a0, a1, a2, e0, e1, e2, e2', if_false]) | (refine abi_len_sl' f0 ?_) | (refine aixs_sln f0 ?_) | (refine aK_sl f0 (by omega) ?_; rintro _ ⟨rfl, _⟩) | refine agrd_dec (fun _ => ?_) (fun _ => ?_) | refine afa_sl (by assumption) ?_ | simp -implicitDefEqProofs (disch := omega) only [wrap_in, u8_small, Int.tmod_eq_emod_of_nonneg, Int.tdiv_eq_ediv_of_nonneg] | ((with_reducible refine adraw_seq ?_ ?_ ?_); (· kernel_rfl); (· decide +kernel)) | refine acond_split (fun _ => ?_) (fun _ => ?_))
    · refine back (i + 1) ⟨by omega, fun k hk1 hk2 => ?_⟩ (by omega)
      rcases Nat.lt_or_ge k i with h | h
      · exact hP k hk1 h
      · obtain rfl : k = i := by omega
        unfold klt; assumption
    all_goals (have hAt : At KRowD.key m.keys o.key i := ⟨hi, hP, by
      first
        | (exact At.hi (i := 0) (j := 0) hmo.1.1 (by omega) (by unfold klt; simp_all))
        | (intro k hk1 hk2; omega)⟩)
    all_goals have hins := hAt.ins (r := (⟨o.key, o.what⟩ : KRowD)) hn0
    all_goals (have wA : ((H1.new [uk, ur] 2).new [AV.v (Value.string o.key), AV.v (Value.int IntKind.i64 o.what)] 2).wf := (hw1.new _ _).new _ _)
    all_goals (have sA : Sub H1 ((H1.new [uk, ur] 2).new [AV.v (Value.string o.key), AV.v (Value.int IntKind.i64 o.what)] 2) := ((Sub.refl _).new hw1 _ _).trans ((Sub.refl _).new (hw1.new _ _) _ _))
    all_goals obtain ⟨F2, F3, F4⟩ := List.nodup_append.1 F1.1
    all_goals refine ACallK.upd (S := Sk) (H0 := H1) (InsertKRowD_ok _ uk m.keys ⟨o.key, o.what⟩ i (H1.nxt + 1) Sk _ (g0.sub sA) hi hl1 (show Flat.ok (⟨o.key, o.what⟩ : KRowD) from ⟨q1, q2⟩) (by simp only [go_sem]; rfl) (fun hm => by have := hS1 _ (List.mem_append_left _ hm); omega)) hw1 sA (fun b hb => (hS1 b (List.mem_append_left _ hb)).2) ?_
    all_goals rintro u H2 S2 c2 o2 g2 kp m2 hS2 kq
    all_goals rw [← hins] at o2
    all_goals have b1 := kp H1.nxt _ (Nat.le_refl _) (by simp only [go_sem]; rfl)
    all_goals have b2 := kq (H.nxt + 2) _ (fun hm => by have := hS1 _ (List.mem_append_left _ hm); omega) (by simp only [go_sem, if_neg e2]; rw [if_neg (by omega)]; exact a2)
    all_goals simp only [go_sem] at m2 hS2
    all_goals (have hS3 : ∀ b ∈ S2, H.nxt + 3 ≤ b ∧ b < H2.nxt ∧ b ≠ H1.nxt := fun b hb => ⟨by
      rcases g2.2.2.1 b hb with h | h
      · exact (hS1 b (List.mem_append_left _ h)).1
      · omega, c2.lt' (o2.isin b hb), by have := hS2 b hb; omega⟩)
    all_goals (have y1 : OwnS H2 Sr ur m.rows := g2.own g1 (fun b hb hm => F4 b hm b hb rfl))
    all_goals (have g3 := g2.left hw1 (fun b hb => g1.isin b hb) F1.1)
    all_goals have z2 := g3.sub hw z1 (fun b hb => by have := hS1 b hb; omega)
    all_goals have yk1 := o2.leaf
    all_goals have yk2 := o2.one
    all_goals (have e3 : ¬ H.nxt + 2 = H2.nxt := by omega)
    all_goals (have e4 : ¬ H1.nxt = H2.nxt := by omega)
    all_goals repeat' (first | simp -implicitDefEqProofs only [go_sem] | (simp -implicitDefEqProofs only [b1, b2, e0, e1, e2, e2', e3, e4, if_false, yk1, yk2, lk, lr, ck, cr, wr_succ, wr_zero, wr_none, set_set, blk_set_self, Bool.and_self]))
    all_goals
      refine retK_two ⟨_, _, by rw [hMD], ?_, S2 ++ Sr, [H2.nxt], ?_, ?_, ?_⟩
      · refine Sub.set hc.1 (Sub.new hc.1 (Sub.set hc.1 z2.1 ?_ _) _ _) ?_ _ <;> omega
      · rw [hMD]
        refine ModelD.own_mk ?_ ?_
        · exact (((o2.setne (b := H1.nxt) (fun b hb => (hS3 b hb).2.2)).sub ((Sub.refl _).new (c2.set (c2.lt b1) _) _ _))).setne (fun b hb => by have := hS3 b hb; omega)
        · exact (((y1.setne (b := H1.nxt) (fun b hb => by have := hS1 b (List.mem_append_right _ hb); omega)).sub ((Sub.refl _).new (c2.set (c2.lt b1) _) _ _))).setne (fun b hb => by have := hS1 b (List.mem_append_right _ hb); omega)
      · rw [hMD]; exact ownNil (by rw [blk_set_ne _ (by omega)]; simp only [go_sem]; rfl)
      · exact Fresh.app ⟨g3.2.2.2, z2.2⟩ ⟨by simp, by intro b hb; simp at hb; omega⟩ (fun b hb hc => by
          simp at hc
          rcases List.mem_append.1 hb with hb | hb
          · have := hS3 b hb; omega
          · have := hS1 b (List.mem_append_right _ hb); omega)
  · have hMD : modelDo m o = (m, 1, []) := modelDo_bad (by simp_all)
    have ox : Own.own ((H1.new [uk, ur] 2).new [] 10) (Sk ++ Sr) [uk, ur] m := Own.sub o1 (((Sub.refl _).new hw1 _ _).trans ((Sub.refl _).new (hw1.new _ _) _ _))
    refine retK_two ⟨_, _, by rw [hMD], by repeat (first | exact Sub.refl _ | assumption | refine Sub.new hc.1 ?_ _ _ | refine Sub.set hc.1 ?_ (by omega) _ | refine Sub.trans ?_ (by assumption)), Sk ++ Sr, [H1.nxt + 1], ?_, ?_, ?_⟩
    · rw [hMD]; exact Own.eq ox (fun b hb => blk_set_ne _ (by have := hS1 b hb; omega) _)
    · rw [hMD]; exact ownNil (by rw [blk_set_ne _ (by omega)]; simp only [go_sem]; rfl)
    · exact Fresh.app (F1.le (by simp only [go_sem]; omega)) ⟨by simp, by intro b hb; simp at hb; omega⟩ (fun b hb hc => by have := hS1 b hb; simp at hc; omega)
end Go.Proofs.YtipfnhfcoolhaaaGreat.Aw
end
section
namespace Go.Proofs.YtipfnhfcoolhaaaGreat.Aw
open Go
def cget (w : WorldD) (i : Nat) : Int := w.cells.getD i 0
def cset (w : WorldD) (i : Nat) (n : Int) : WorldD := { w with cells := w.cells.set i n }
def cadd (w : WorldD) (i : Nat) (n : Int) : WorldD := cset w i ((cget w i + n) % 281474976710656)
def pointE (w : WorldD) (t : Nat) (j : JobD) (code win : Int) : EvD := ⟨2, t, j.serial, w.now, j.op, code, win, 0, 0, []⟩
def pointD (w : WorldD) (t : Nat) (j : JobD) (code win : Int) : WorldD × JobD := ({ w with log := w.log ++ [pointE w t j code win] }, { j with code := code })
def endD (w : WorldD) (t : Nat) (j : JobD) (code : Int) : WorldD × JobD := ((pointD w t j code (-1)).1, { j with code := code, pc := 11 })
def probeTag (w : WorldD) (j : JobD) : Int := cget w (keyCell (probe j.op.key j.k)).toNat
def probeD (w : WorldD) (t : Nat) (j : JobD) : WorldD × JobD :=
  if probeTag w j = 0 then (if j.op.kind = 1 then (w, { j with pc := 1 }) else endD w t j 2)
  else if (untag (probeTag w j)).1 = j.op.key then
    (if j.op.kind = 2 then (w, { j with slot := probe j.op.key j.k, what := (untag (probeTag w j)).2, pc := 2 })
     else if (untag (probeTag w j)).2 = j.op.what then endD w t j 0 else endD w t j 4)
  else if j.k < 3 then (w, { j with k := j.k + 1 })
  else if j.op.kind = 1 then endD w t j 3 else endD w t j 2
def claimD (w : WorldD) (t : Nat) (j : JobD) : WorldD × JobD :=
  if probeTag w j = 0 then endD (cset w (keyCell (probe j.op.key j.k)).toNat (tagged j.op.key j.op.what)) t j 0 else (w, { j with pc := 0 })
def baseD (j : JobD) : Nat := (slotBase (j.e % 2) j.slot).toNat
def inD (j : JobD) : Nat := 1 + (j.e % 2).toNat
def dataD (w : WorldD) (t : Nat) (j : JobD) : WorldD × JobD :=
  if j.what = 1 then ((pointD (cadd w (baseD j + t % 2) j.op.val) t j 0 j.e).1, { j with code := 0, pc := 9 })
  else if j.what = 2 then ((pointD (cadd w (baseD j + 2) 1) t j 0 j.e).1, { j with code := 0, stamp := (cget w (baseD j + 2) + 1) % 281474976710656, pc := 6 })
  else if 3 ≤ cget w (baseD j + 4) then ((pointD (cadd w (baseD j + 4) 1) t j 5 j.e).1, { j with code := 5, pc := 9 })
  else ((pointD (cadd w (baseD j + 4) 1) t j 0 j.e).1, { j with code := 0, k := cget w (baseD j + 4), pc := 8 })
def writeD (w : WorldD) (t : Nat) (j : JobD) : WorldD × JobD :=
  if j.pc = 2 then (w, { j with e := cget w 0, pc := 3 })
  else if j.pc = 3 then (cadd w (inD j) 1, { j with pc := 4 })
  else if j.pc = 4 then (w, { j with pc := if cget w 0 = j.e then 5 else 10 })
  else if j.pc = 5 then dataD w t j
  else if j.pc = 6 then (w, { j with old := cget w (baseD j + 3), pc := if j.stamp < (unpackGauge (cget w (baseD j + 3))).1 then 9 else 7 })
  else if j.pc = 7 then (if cget w (baseD j + 3) = j.old then (cset w (baseD j + 3) (packGauge j.stamp j.op.val), { j with pc := 9 }) else (w, { j with pc := 6 }))
  else if j.pc = 8 then (cset w (baseD j + 5 + j.k.toNat) (j.op.val + 1), { j with pc := 9 })
  else if j.pc = 9 then (cadd w (inD j) (-1), { j with pc := 11 })
  else (cadd w (inD j) (-1), { j with flips := IntKind.i64.wrap (j.flips + 1), pc := 2 })
def drainC (j : JobD) : Nat := 7 + (j.e % 2).toNat * 32 + j.k.toNat
def flushD (w : WorldD) (t : Nat) (j : JobD) : WorldD × JobD :=
  if j.pc = 12 then ((pointD (cadd w 0 1) t j 0 (cget w 0)).1, { j with e := cget w 0, code := 0, pc := 13 })
  else if j.pc = 13 then (if cget w (inD j) = 0 then (w, { j with k := 0, pc := 14 }) else (w, j))
  else if j.pc = 14 then
    (if j.k = 3 then (w, { j with keys := j.keys ++ [cget w (3 + j.k.toNat)], k := 0, pc := 15 }) else (w, { j with keys := j.keys ++ [cget w (3 + j.k.toNat)], k := j.k + 1 }))
  else (cset w (drainC j) 0, { j with raw := j.raw ++ [cget w (drainC j)], k := j.k + 1, pc := if j.k = 31 then 11 else j.pc })
def rowsTo (keys raw : List Int) : Nat → List RowD
  | 0 => []
  | s + 1 => if (s + 1) * 8 ≤ raw.length then addRow (rowsTo keys raw s) (rowFrom (keys.getD s 0) ((raw.drop (s * 8)).take 8)) else rowsTo keys raw s
def rowsD (j : JobD) : List RowD := rowsTo j.keys j.raw j.keys.length
def tellE (w : WorldD) (t : Nat) (j : JobD) : EvD := ⟨3, t, j.serial, w.now, j.op, j.code, -1, j.steps, j.flips, rowsD j⟩
def tellD (w : WorldD) (t : Nat) (j : JobD) : WorldD × JobD := ({ w with log := w.log ++ [tellE w t j] }, job0)
def moveD (w : WorldD) (t : Nat) (j : JobD) : WorldD × JobD :=
  if j.pc = 11 then tellD w t j else if j.pc = 0 then probeD w t j else if j.pc = 1 then claimD w t j else if j.pc < 12 then writeD w t j else flushD w t j
def opsAt (w : WorldD) (t : Nat) : List OpD := (w.todo.getD t ⟨[]⟩).ops
def startJ (serial : Int) (o : OpD) : JobD := { job0 with busy := true, op := o, serial := serial, pc := if o.kind = 3 then 12 else 0 }
def startD (w : WorldD) (t : Nat) : WorldD :=
  { w with serial := w.serial + 1, jobs := w.jobs.set t (startJ (w.serial + 1) ((opsAt w t).headD op0)), todo := w.todo.set t ⟨(opsAt w t).tail⟩,
           log := w.log ++ [⟨1, t, w.serial + 1, w.now, (opsAt w t).headD op0, 0, -1, 0, 0, []⟩] }
def jobOf (w : WorldD) (t : Nat) : JobD := w.jobs.getD t job0
def stepD (w : WorldD) (t : Nat) : WorldD :=
  if w.now = 1000000000 then w
  else if (jobOf w t).busy = true then
    let r := moveD { w with now := w.now + 1 } t { jobOf w t with steps := IntKind.i64.wrap ((jobOf w t).steps + 1) }
    { r.1 with jobs := r.1.jobs.set t r.2 }
  else if opsAt w t = [] ∨ w.serial = 1000000 then w
  else startD { w with now := w.now + 1 } t
def stepS (w : WorldD) (t : Int) : WorldD := if worldOk w = true ∧ 0 ≤ t ∧ t ≤ 3 then stepD w t.toNat else w
end Go.Proofs.YtipfnhfcoolhaaaGreat.Aw
end
section
namespace Go.Proofs.YtipfnhfcoolhaaaGreat.Aw
open Go Go.RowKit
theorem untag_I (n : Int) : 0 ≤ (untag n).2 ∧ (untag n).2 ≤ 3 := by unfold untag; split <;> simp <;> omega
theorem slotBase_of {b s : Int} (hb : 0 ≤ b ∧ b ≤ 1) (hs : 0 ≤ s ∧ s ≤ 3) : slotBase b s = 7 + b * 32 + s * 8 := by rw [slotBase, if_pos ⟨hb, hs⟩]
theorem packGauge_W (s v : Int) : wordP (packGauge s v) := by unfold packGauge wordP; split <;> omega
theorem packGauge_I (s v : Int) : inI64 (packGauge s v) := by have := packGauge_W s v; unfold wordP at this; simp only [inI64]; omega
structure DataP (w : WorldD) (j : JobD) : Prop where
  ok : cellsOk w.cells = true
  e : 0 ≤ j.e ∧ j.e ≤ 281474976710655
  slot : 0 ≤ j.slot ∧ j.slot ≤ 3
  val : 0 ≤ j.op.val ∧ j.op.val ≤ 65535
theorem DataP.base {w : WorldD} {j : JobD} (h : DataP w j) : slotBase (j.e % 2) j.slot = 7 + j.e % 2 * 32 + j.slot * 8 ∧ baseD j = 7 + (j.e % 2).toNat * 32 + j.slot.toNat * 8 ∧ 0 ≤ j.e % 2 ∧ j.e % 2 ≤ 1 := by
  have h1 := h.e
  have h2 := h.slot
  have h3 := slotBase_of (b := j.e % 2) (s := j.slot) (by omega) h2
  refine ⟨h3, ?_, by omega, by omega⟩
  unfold baseD; rw [h3]; omega
end Go.Proofs.YtipfnhfcoolhaaaGreat.Aw
end
