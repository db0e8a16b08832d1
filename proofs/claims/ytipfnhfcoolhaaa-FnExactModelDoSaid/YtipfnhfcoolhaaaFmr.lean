/- What an operation does to a model: the reference. -/
import Derived.Test.YtipfnhfcoolhaaaFmc
import Derived.Test.YtipfnhfcoolhaaaFkp
import Derived.Test.YtipfnhfcoolhaaaFct
import Derived.Test.YtipfnhfcoolhaaaFy
import Derived.Test.YtipfnhfcoolhaaaUp
namespace Go.Proofs.Ytipfnhfcoolhaaa.Aw
open Go Go.RowKit
set_option linter.unusedVariables false
set_option linter.unusedSimpArgs false
set_option maxRecDepth 100000
set_option maxHeartbeats 2000000
attribute [-go_sem] wr_eq
/-- What registering does, told of a model and a code. -/
def regDo (m : ModelD) (o : OpD) : ModelD × Int :=
  if modelKind m o.key = o.what then (m, 0) else if ¬ modelKind m o.key = 0 then (m, 4) else if (m.keys.length : Int) = 4 then (m, 3) else (⟨insK KRowD.key m.keys ⟨o.key, o.what⟩, m.rows⟩, 0)
def recDo (m : ModelD) (o : OpD) : ModelD × Int := if (modelRow m o.key).kind = 0 then (m, 2) else (⟨m.keys, rowAnew m.rows (recRow (modelRow m o.key) o.val)⟩, recCode (modelRow m o.key))
theorem l13Register_ok (W0 : World) (cs : List AV) (m : ModelD) (co : List AV) (o : OpD) (S : List Nat) (H : AH) (hm : Own.own H S cs m) (hn : S.Nodup) (ho : Ob.rep W0 H co o) (hl : m.keys.length ≤ 1000) :
    ACalls Try.prog W0 78 [.agg cs, .agg co] H (fun v H' => ∃ cs' S', v = .tup [.agg cs', .v (.int .i64 (regDo m o).2)] ∧ Own.own H' S' cs' (regDo m o).1 ∧ Upd S H H' S') := by
  refine acallw Try.func78 rfl (by kernel_rfl) (by kernel_rfl) fun hc hw => ?_
  have hrep := Own.rep (W0 := W0) hm
  have hm0 := hm
  obtain ⟨vk, vr, Sk, Sr, rfl, rfl, f0, f1⟩ := hm
  obtain ⟨rfl, q0, q1, q2, q3⟩ := ho
  have hbk := (f0.slr (W0 := W0)).slLen
  have lk := f0.leaf
  have lr := f1.leaf
  have ck := f0.one
  have cr := f1.one
  have hlk : ∀ b ∈ Sk, b < H.nxt := fun b hb => hw.lt' (f0.isin b hb)
  have hlr : ∀ b ∈ Sr, b < H.nxt := fun b hb => hw.lt' (f1.isin b hb)
  repeat' (first | simp -implicitDefEqProofs only [go_sem] | (refine ACallK.eq (ModelKind_spec _ _ m _ _ (Ob.sub (by repeat (first | exact Sub.refl _ | assumption | refine Sub.new (by assumption) ?_ _ _ | refine Sub.kill_new (by assumption) ?_ _ _ | refine Sub.trans ?_ (by assumption))) hrep)) ?_) | (refine abi_len_sl' (f0.slr (W0 := W0)) ?_) | (simp -implicitDefEqProofs only [lk, lr, wr_succ, wr_zero, wr_none, set_set, Bool.and_self]) | refine acond_dec (fun _ => ?_) (fun _ => ?_) | refine acond_ndec (fun _ => ?_) (fun _ => ?_))
  · rw [regDo, if_pos (by assumption)]
    exact retK_two ⟨_, _, rfl, Own.sub hm0 (by repeat (first | exact Sub.refl _ | assumption | refine Sub.new (by assumption) ?_ _ _ | refine Sub.kill_new (by assumption) ?_ _ _ | refine Sub.trans ?_ (by assumption))), Upd.idle (by repeat (first | exact Sub.refl _ | assumption | refine Sub.new (by assumption) ?_ _ _ | refine Sub.kill_new (by assumption) ?_ _ _ | refine Sub.trans ?_ (by assumption))) hn⟩
  · rw [regDo, if_neg (by assumption), if_pos (by assumption)]
    exact retK_two ⟨_, _, rfl, Own.sub hm0 (by repeat (first | exact Sub.refl _ | assumption | refine Sub.new (by assumption) ?_ _ _ | refine Sub.kill_new (by assumption) ?_ _ _ | refine Sub.trans ?_ (by assumption))), Upd.idle (by repeat (first | exact Sub.refl _ | assumption | refine Sub.new (by assumption) ?_ _ _ | refine Sub.kill_new (by assumption) ?_ _ _ | refine Sub.trans ?_ (by assumption))) hn⟩
  · rw [regDo, if_neg (by assumption), if_neg (by simp_all), if_pos (by assumption)]
    exact retK_two ⟨_, _, rfl, Own.sub hm0 (by repeat (first | exact Sub.refl _ | assumption | refine Sub.new (by assumption) ?_ _ _ | refine Sub.kill_new (by assumption) ?_ _ _ | refine Sub.trans ?_ (by assumption))), Upd.idle (by repeat (first | exact Sub.refl _ | assumption | refine Sub.new (by assumption) ?_ _ _ | refine Sub.kill_new (by assumption) ?_ _ _ | refine Sub.trans ?_ (by assumption))) hn⟩
  · rw [regDo, if_neg (by assumption), if_neg (by simp_all), if_neg (by assumption)]
    obtain ⟨n1, n2, n3⟩ := List.nodup_append.1 hn
    refine ACallK.of (l13KeyPut_ok _ vk m.keys ⟨o.key, o.what⟩ Sk _ (f0.sub (by repeat (first | exact Sub.refl _ | assumption | refine Sub.new (by assumption) ?_ _ _ | refine Sub.kill_new (by assumption) ?_ _ _ | refine Sub.trans ?_ (by assumption)))) n1 hl ⟨q1, q2⟩).cl ?_
    rintro u H1 ⟨⟨S1, o1, g1⟩, c1⟩
    have w3 : (((H.new [vk, vr] 2).new [AV.v (Value.int IntKind.i64 o.kind), AV.v (Value.string o.key), AV.v (Value.int IntKind.i64 o.what), AV.v (Value.int IntKind.i64 o.val)] 4).new [AV.v (Value.slice none 0 0), AV.v (Value.slice none 0 0)] 2).wf := ((hw.new _ _).new _ _).new _ _
    have a1 := g1.2.1 H.nxt _ (fun hm => by have := hlk _ hm; omega) (by simp only [go_sem]; rfl)
    have b1 := g1.2.1 (H.nxt + 2) _ (fun hm => by have := hlk _ hm; omega) (by simp only [go_sem]; rfl)
    have u1 := o1.leaf
    have u2 := o1.one
    have hr1 : OwnS H1 Sr vr m.rows := g1.own (f1.sub (by repeat (first | exact Sub.refl _ | assumption | refine Sub.new (by assumption) ?_ _ _ | refine Sub.kill_new (by assumption) ?_ _ _ | refine Sub.trans ?_ (by assumption)))) (fun b hb hm => n3 b hm b hb rfl)
    have g2 := (g1.left w3 (fun b hb => (f1.sub (by repeat (first | exact Sub.refl _ | assumption | refine Sub.new (by assumption) ?_ _ _ | refine Sub.kill_new (by assumption) ?_ _ _ | refine Sub.trans ?_ (by assumption))) : OwnS _ Sr vr m.rows).isin b hb) hn).start (H := H) (by repeat (first | exact Sub.refl _ | assumption | refine Sub.new (by assumption) ?_ _ _ | refine Sub.kill_new (by assumption) ?_ _ _ | refine Sub.trans ?_ (by assumption)))
    repeat' (first | simp -implicitDefEqProofs only [go_sem] | (simp -implicitDefEqProofs only [a1, b1, blk_set_self, blk_set_ne, u1, u2, lk, lr, cr, wr_succ, wr_zero, wr_none, set_set, Bool.and_self]))
    have hS1 : ∀ b ∈ S1, b ≠ H.nxt ∧ b ≠ H.nxt + 2 := fun b hb => by
      rcases g1.2.2.1 b hb with h | h
      · have := hlk b h; omega
      · simp only [go_sem] at h; omega
    exact retK_two ⟨_, _, rfl, ModelD.own_mk ((o1.setne (fun b hb => (hS1 b hb).1)).setne (fun b hb => (hS1 b hb).2)) ((hr1.setne (fun b hb => by have := hlr b hb; omega)).setne (fun b hb => by have := hlr b hb; omega)), (g2.setNew hw (Nat.le_refl _) _).setNew hw (by omega) _⟩
theorem recRow_B {r : RowD} (h : rowB r) {v : Int} (hv : 0 ≤ v ∧ v ≤ 65535) : rowB (recRow r v) := by
  unfold recRow
  split
  · exact counted_B h v
  · split
    · obtain ⟨h1, h2, h3, h4, h5, h6, h7, h8, h9⟩ := h
      exact ⟨h1, h2, h3, by simp only [inI64]; omega, h5, h6, h7, h8, h9⟩
    · exact sampled_B h v
theorem l13Record_ok (W0 : World) (cs : List AV) (m : ModelD) (co : List AV) (o : OpD) (S : List Nat) (H : AH) (hm : Own.own H S cs m) (hn : S.Nodup) (ho : Ob.rep W0 H co o) (hl : m.rows.length ≤ 900) (hP : (modelRow m o.key).kind = 0 ∨ (rowP (modelRow m o.key) ∧ 0 ≤ o.val ∧ o.val ≤ 65535)) :
    ACalls Try.prog W0 79 [.agg cs, .agg co] H (fun v H' => ∃ cs' S', v = .tup [.agg cs', .v (.int .i64 (recDo m o).2)] ∧ Own.own H' S' cs' (recDo m o).1 ∧ Upd S H H' S') := by
  refine acallw Try.func79 rfl (by kernel_rfl) (by kernel_rfl) fun hc hw => ?_
  have hrep := Own.rep (W0 := W0) hm
  have hm0 := hm
  obtain ⟨vk, vr, Sk, Sr, rfl, rfl, f0, f1⟩ := hm
  obtain ⟨rfl, q0, q1, q2, q3⟩ := ho
  have lk := f0.leaf
  have lr := f1.leaf
  have ck := f0.one
  have cr := f1.one
  have hlk : ∀ b ∈ Sk, b < H.nxt := fun b hb => hw.lt' (f0.isin b hb)
  have hlr : ∀ b ∈ Sr, b < H.nxt := fun b hb => hw.lt' (f1.isin b hb)
  have hB := modelRow_B hrep q1
  generalize hr : modelRow m o.key = r at *
  repeat' (first | simp -implicitDefEqProofs only [go_sem] | (refine ACallK.eq (ModelRow_spec _ _ m _ _ (Ob.sub (by repeat (first | exact Sub.refl _ | assumption | refine Sub.new (by assumption) ?_ _ _ | refine Sub.kill_new (by assumption) ?_ _ _ | refine Sub.trans ?_ (by assumption))) hrep)) ?_; rw [hr]; simp only [rowCells]) | (simp -implicitDefEqProofs only [lk, lr, wr_succ, wr_zero, wr_none, set_set, Bool.and_self]) | (refine ACallK.eq (Counted_spec _ _ r _ _ ⟨rfl, hB⟩) ?_) | (refine ACallK.eq (Sampled_spec _ _ r _ _ ⟨rfl, hB⟩) ?_) | refine acond_dec (fun _ => ?_) (fun _ => ?_) | ((with_reducible refine adraw_plan [(0, []), (1, []), (2, []), (3, []), (4, []), (5, [0, 1]), (6, []), (7, []), (8, [])] ?_ ?_ ?_); (· kernel_rfl); (· decide +kernel)))
  · rename_i hk
    rw [recDo, if_pos (by rw [hr]; exact hk)]
    exact retK_two ⟨_, _, rfl, Own.sub hm0 (by repeat (first | exact Sub.refl _ | refine Sub.set hw ?_ (by omega) _ | refine Sub.new hw ?_ _ _)), Upd.idle (by repeat (first | exact Sub.refl _ | refine Sub.set hw ?_ (by omega) _ | refine Sub.new hw ?_ _ _)) hn⟩
  all_goals rw [recDo, if_neg (by rw [hr]; simp_all)]
  all_goals rw [hr]
  all_goals obtain ⟨n1, n2, n3⟩ := List.nodup_append.1 hn
  · have hk0 : ¬ r.kind = 0 := by simp_all
    obtain ⟨hP1, hP2⟩ := hP.resolve_left hk0
    have e1 : recRow r o.val = counted r o.val := by unfold recRow; rw [if_pos (by assumption)]
    have e2 : recCode r = 0 := by unfold recCode; rw [if_pos (.inl (by assumption))]
    have hrB : rowB (recRow r o.val) := recRow_B hB hP2
    have hrk : ¬ (recRow r o.val).kind = 0 := by rw [(recRow_kind r o.val).2]; exact hk0
    have hcall := l13Row_ok W0 vr m.rows (recRow r o.val) Sr
    rw [e1] at hcall hrB hrk ⊢
    rw [e2]
    simp only [rowCells] at hcall
    refine ACallK.upd (hcall _ ?_ n2 hl hrB hrk) hw (by repeat (first | exact Sub.refl _ | refine Sub.set hw ?_ (by omega) _ | refine Sub.new hw ?_ _ _)) hlr ?_
    · exact f1.sub (by repeat (first | exact Sub.refl _ | refine Sub.set hw ?_ (by omega) _ | refine Sub.new hw ?_ _ _))
    intro u H1 S1 c1 o1 g1 kp m1 hS1 kq
    have a1 := kp H.nxt _ (Nat.le_refl _) (by simp only [go_sem]; rfl)
    have b1 := kp (H.nxt + 2) _ (by omega) (by simp only [go_sem]; rfl)
    simp only [go_sem] at m1 hS1
    have u1 := o1.leaf
    have u2 := o1.one
    have hk1 : OwnS H1 Sk vk m.keys := g1.own f0 (fun b hb hm => n3 b hb b hm rfl)
    have g2 := g1.right hw (fun b hb => f0.isin b hb) hn
    repeat' (first | simp -implicitDefEqProofs only [go_sem] | (simp -implicitDefEqProofs only [a1, b1, blk_set_self, u1, u2, lk, lr, ck, wr_succ, wr_zero, wr_none, set_set, Bool.and_self]))
    all_goals first | rw [if_pos (by assumption)] | rw [if_neg (by assumption)] | skip
    all_goals refine retK_two ⟨_, _, rfl, ModelD.own_mk (S := Sk) (T := S1) ?_ ?_, ?_⟩
    all_goals first
      | exact (hk1.setne (fun b hb => by have := hlk b hb; omega)).setne (fun b hb => by have := hlk b hb; omega)
      | exact (o1.setne (fun b hb => by have := hS1 b hb; omega)).setne (fun b hb => by have := hS1 b hb; omega)
      | (refine Upd.setNew hw (Upd.setNew hw g2 ?_ _) ?_ _ <;> omega)
  · have hk0 : ¬ r.kind = 0 := by simp_all
    obtain ⟨hP1, hP2⟩ := hP.resolve_left hk0
    have e1 : recRow r o.val = { r with set := true, last := o.val } := by unfold recRow; rw [if_neg (by assumption), if_pos (by assumption)]
    have e2 : recCode r = 0 := by unfold recCode; rw [if_pos (.inr (by assumption))]
    have hrB : rowB (recRow r o.val) := recRow_B hB hP2
    have hrk : ¬ (recRow r o.val).kind = 0 := by rw [(recRow_kind r o.val).2]; exact hk0
    have hcall := l13Row_ok W0 vr m.rows (recRow r o.val) Sr
    rw [e1] at hcall hrB hrk ⊢
    rw [e2]
    simp only [rowCells] at hcall
    refine ACallK.upd (hcall _ ?_ n2 hl hrB hrk) hw (by repeat (first | exact Sub.refl _ | refine Sub.set hw ?_ (by omega) _ | refine Sub.new hw ?_ _ _)) hlr ?_
    · exact f1.sub (by repeat (first | exact Sub.refl _ | refine Sub.set hw ?_ (by omega) _ | refine Sub.new hw ?_ _ _))
    intro u H1 S1 c1 o1 g1 kp m1 hS1 kq
    have a1 := kp H.nxt _ (Nat.le_refl _) (by simp only [go_sem]; rfl)
    have b1 := kp (H.nxt + 2) _ (by omega) (by simp only [go_sem]; rfl)
    simp only [go_sem] at m1 hS1
    have u1 := o1.leaf
    have u2 := o1.one
    have hk1 : OwnS H1 Sk vk m.keys := g1.own f0 (fun b hb hm => n3 b hb b hm rfl)
    have g2 := g1.right hw (fun b hb => f0.isin b hb) hn
    repeat' (first | simp -implicitDefEqProofs only [go_sem] | (simp -implicitDefEqProofs only [a1, b1, blk_set_self, u1, u2, lk, lr, ck, wr_succ, wr_zero, wr_none, set_set, Bool.and_self]))
    all_goals first | rw [if_pos (by assumption)] | rw [if_neg (by assumption)] | skip
    all_goals refine retK_two ⟨_, _, rfl, ModelD.own_mk (S := Sk) (T := S1) ?_ ?_, ?_⟩
    all_goals first
      | exact (hk1.setne (fun b hb => by have := hlk b hb; omega)).setne (fun b hb => by have := hlk b hb; omega)
      | exact (o1.setne (fun b hb => by have := hS1 b hb; omega)).setne (fun b hb => by have := hS1 b hb; omega)
      | (refine Upd.setNew hw (Upd.setNew hw g2 ?_ _) ?_ _ <;> omega)
  · have hk0 : ¬ r.kind = 0 := by simp_all
    obtain ⟨hP1, hP2⟩ := hP.resolve_left hk0
    have e1 : recRow r o.val = sampled r o.val := by unfold recRow; rw [if_neg (by assumption), if_neg (by assumption)]
    have e2 : recCode r = if r.n = 3 then 5 else 0 := by unfold recCode; rw [if_neg (by rintro (h | h) <;> simp_all)]
    have hrB : rowB (recRow r o.val) := recRow_B hB hP2
    have hrk : ¬ (recRow r o.val).kind = 0 := by rw [(recRow_kind r o.val).2]; exact hk0
    have hcall := l13Row_ok W0 vr m.rows (recRow r o.val) Sr
    rw [e1] at hcall hrB hrk ⊢
    rw [e2]
    simp only [rowCells] at hcall
    refine ACallK.upd (hcall _ ?_ n2 hl hrB hrk) hw (by repeat (first | exact Sub.refl _ | refine Sub.set hw ?_ (by omega) _ | refine Sub.new hw ?_ _ _)) hlr ?_
    · exact f1.sub (by repeat (first | exact Sub.refl _ | refine Sub.set hw ?_ (by omega) _ | refine Sub.new hw ?_ _ _))
    intro u H1 S1 c1 o1 g1 kp m1 hS1 kq
    have a1 := kp H.nxt _ (Nat.le_refl _) (by simp only [go_sem]; rfl)
    have b1 := kp (H.nxt + 2) _ (by omega) (by simp only [go_sem]; rfl)
    simp only [go_sem] at m1 hS1
    have u1 := o1.leaf
    have u2 := o1.one
    have hk1 : OwnS H1 Sk vk m.keys := g1.own f0 (fun b hb hm => n3 b hb b hm rfl)
    have g2 := g1.right hw (fun b hb => f0.isin b hb) hn
    repeat' (first | simp -implicitDefEqProofs only [go_sem] | (simp -implicitDefEqProofs only [a1, b1, blk_set_self, u1, u2, lk, lr, ck, wr_succ, wr_zero, wr_none, set_set, Bool.and_self]) | refine acond_dec (fun _ => ?_) (fun _ => ?_))
    all_goals first | rw [if_pos (by assumption)] | rw [if_neg (by assumption)] | skip
    all_goals refine retK_two ⟨_, _, rfl, ModelD.own_mk (S := Sk) (T := S1) ?_ ?_, ?_⟩
    all_goals first
      | exact (hk1.setne (fun b hb => by have := hlk b hb; omega)).setne (fun b hb => by have := hlk b hb; omega)
      | exact (o1.setne (fun b hb => by have := hS1 b hb; omega)).setne (fun b hb => by have := hS1 b hb; omega)
      | (refine Upd.setNew hw (Upd.setNew hw g2 ?_ _) ?_ _ <;> omega)
/-- What registering and recording do, told together. -/
theorem modelDo_reg {m : ModelD} {o : OpD} (h : modelOk m = true ∧ opOk o = true) (hk : o.kind = 1) : modelDo m o = ((regDo m o).1, (regDo m o).2, []) := by
  unfold modelDo regDo
  rw [if_neg (fun k => k h), if_neg (by omega), if_neg (by omega)]
  split
  · rfl
  · split
    · rfl
    · split <;> rfl
theorem modelDo_rec {m : ModelD} {o : OpD} (h : modelOk m = true ∧ opOk o = true) (hk : o.kind = 2) : modelDo m o = ((recDo m o).1, (recDo m o).2, []) := by
  unfold modelDo recDo
  rw [if_neg (fun k => k h), if_neg (by omega), if_pos hk]
  by_cases hz : modelKind m o.key = 0
  · rw [if_pos hz, if_pos (by rw [modelRow_zero h.1 hz]; rfl)]
  · rw [if_neg hz, if_neg (by rw [(modelRow_ok h.1 hz).2.1]; exact hz)]
theorem modelDo_flu {m : ModelD} {o : OpD} (h : modelOk m = true ∧ opOk o = true) (hk : o.kind = 3) : modelDo m o = (⟨m.keys, []⟩, 0, m.rows) := by
  unfold modelDo
  rw [if_neg (fun k => k h), if_pos hk]
theorem modelDo_bad {m : ModelD} {o : OpD} (h : ¬ (modelOk m = true ∧ opOk o = true)) : modelDo m o = (m, 1, []) := by
  unfold modelDo
  rw [if_pos h]
theorem opOk_val {o : OpD} (h : opOk o = true) (hk : o.kind = 2) : 0 ≤ o.val ∧ o.val ≤ 65535 := by
  unfold opOk at h
  rw [if_neg (by omega), if_pos hk] at h
  simp only [Bool.and_eq_true, decide_eq_true_eq] at h
  exact h.2
theorem recDo_hP {m : ModelD} {o : OpD} (h : modelOk m = true) (ho : opOk o = true) (hk : o.kind = 2) : (modelRow m o.key).kind = 0 ∨ (rowP (modelRow m o.key) ∧ 0 ≤ o.val ∧ o.val ≤ 65535) := by
  by_cases hz : modelKind m o.key = 0
  · exact .inl (by rw [modelRow_zero h hz]; rfl)
  · exact .inr ⟨(modelRow_ok h hz).2.2, opOk_val ho hk⟩
/-- What ModelDo hands back. -/
def MdR (W0 : World) (H : AH) (m : ModelD) (o : OpD) (r : AV) (H' : AH) : Prop := ∃ c' v, r = .tup [.agg c', .v (.int .i64 (modelDo m o).2.1), v] ∧ Sub H H' ∧ ∃ S T, Own.own H' S c' (modelDo m o).1 ∧ OwnS H' T v (modelDo m o).2.2 ∧ Fresh H.nxt (S ++ T)
theorem ModelDo_spec (W0 : World) (cs : List AV) (m : ModelD) (co : List AV) (o : OpD) (H : AH) (hm : Ob.rep W0 H cs m) (ho : Ob.rep W0 H co o) (h1 : m.keys.length ≤ 1000000000) (h2 : m.rows.length ≤ 1000000000) :
    ACalls Try.prog W0 20 [.agg cs, .agg co] H (MdR W0 H m o) := by
  refine acallw Try.func20 rfl (by kernel_rfl) (by kernel_rfl) fun hc hw => ?_
  have hm0 := hm
  have ho0 := ho
  obtain ⟨vk, vr, rfl, f0, f1⟩ := hm
  obtain ⟨rfl, q0, q1, q2, q3⟩ := ho
  repeat' (first | simp -implicitDefEqProofs only [go_sem])
  refine ACallK.of (l13Copy_ok _ _ m _ (Ob.sub (by repeat (first | exact Sub.refl _ | assumption | refine Sub.new (by assumption) ?_ _ _ | refine Sub.kill_new (by assumption) ?_ _ _ | refine Sub.trans ?_ (by assumption))) hm0) h1 h2).cl ?_
  rintro _ H1 ⟨⟨s1, S1, c1, rfl, o1, F1⟩, k1⟩
  have hw1 := k1.1
  have z1 : Sub H H1 := (((Sub.new hw (Sub.refl _) _ _).trans ((Sub.refl _).new (hw.new _ _) _ _)).trans ((Sub.refl _).new ((hw.new _ _).new _ _) _ _)).trans s1
  have a0 := s1.2 H.nxt _ (by simp only [go_sem]; rfl)
  have a1 := s1.2 (H.nxt + 1) _ (by simp only [go_sem]; rfl)
  have a2 := s1.2 (H.nxt + 2) _ (by simp only [go_sem]; rfl)
  have n1 := s1.1; simp only [go_sem] at n1
  have hS1 : ∀ b ∈ S1, H.nxt + 3 ≤ b ∧ b < H1.nxt := fun b hb => ⟨by have := F1.2 b hb; simpa only [go_sem] using this, hw1.lt' (Own.isin o1 b hb)⟩
  have o1' := o1
  obtain ⟨uk, ur, Sk, Sr, rfl, rfl, g0, g1⟩ := o1'
  have lk := g0.leaf
  have lr := g1.leaf
  have ck := g0.one
  have cr := g1.one
  have e0 : ¬ H.nxt = H1.nxt := by omega
  have e1 : ¬ H.nxt + 1 = H1.nxt := by omega
  have e2 : ¬ H.nxt + 2 = H1.nxt := by omega
  repeat' (first | simp -implicitDefEqProofs only [go_sem] | (simp -implicitDefEqProofs only [a0, a1, a2, e0, e1, e2, if_false, lk, lr, ck, cr, wr_succ, wr_zero, wr_none, set_set, Bool.and_self]) | (refine ACallK.eq (ModelOk_spec _ _ m _ (Ob.sub' hm0)) ?_) | (refine ACallK.eq (OpOk_spec _ _ o _ (Ob.sub' ho0)) ?_) | refine acond_dec (fun _ => ?_) (fun _ => ?_) | refine acond_split (fun _ => ?_) (fun _ => ?_) | refine agrd_bf (fun _ => ?_) (fun _ => ?_))
  · have hbad : ¬ (modelOk m = true ∧ opOk o = true) := by simp_all
    have ox : Own.own ((H1.new [uk, ur] 2).new [] 10) (Sk ++ Sr) [uk, ur] m := Own.sub o1 (((Sub.refl _).new hw1 _ _).trans ((Sub.refl _).new (hw1.new _ _) _ _))
    refine retK_two ⟨_, _, by rw [modelDo_bad hbad], by repeat (first | exact Sub.refl _ | assumption | refine Sub.new hc.1 ?_ _ _ | refine Sub.set hc.1 ?_ (by omega) _ | refine Sub.trans ?_ (by assumption)), Sk ++ Sr, [H1.nxt + 1], ?_, ?_, ?_⟩
    · rw [modelDo_bad hbad]; exact Own.eq ox (fun b hb => blk_set_ne _ (by have := hS1 b hb; omega) _)
    · rw [modelDo_bad hbad]; exact ownNil (by rw [blk_set_ne _ (by omega)]; simp only [go_sem]; rfl)
    · exact Fresh.app (F1.le (by simp only [go_sem]; omega)) ⟨by simp, by intro b hb; simp at hb; omega⟩ (fun b hb hc => by have := hS1 b hb; simp at hc; omega)
  · have hg : modelOk m = true ∧ opOk o = true := by simp_all
    have hmo := (modelOk_iff.1 hg.1)
    have hl1 : m.keys.length ≤ 900 := by have := hmo.1.2.1; omega
    have hl2 : m.rows.length ≤ 900 := by have := (reportOk_iff.1 hmo.2.2).2.1; omega
    have hMD := modelDo_reg hg (by assumption)
    refine ACallK.upd (S := Sk ++ Sr) (H0 := H1) (R := fun v H' S' => ∃ cs', v = .tup [.agg cs', .v (.int .i64 (regDo m o).2)] ∧ Own.own H' S' cs' (regDo m o).1) ?_ hw1 ((Sub.refl _).new hw1 _ _) (fun b hb => (hS1 b hb).2) ?_
    · exact (l13Register_ok _ _ m _ o (Sk ++ Sr) _ (Own.sub o1 ((Sub.refl _).new hw1 _ _)) F1.1 (Ob.sub' ho0) (by omega)).mono fun v H' ⟨cs', S', h1, h2, h3⟩ => ⟨S', ⟨cs', h1, h2⟩, h3⟩
    rintro _ H2 S2 c2 ⟨cs2, rfl, o2⟩ g2 kp m2 hS2 kq
    have b1 := kp H1.nxt _ (Nat.le_refl _) (by simp only [go_sem]; rfl)
    have b2 := kq (H.nxt + 2) _ (fun hm => by have := hS1 _ hm; omega) (by simp only [go_sem, if_neg e2]; exact a2)
    simp only [go_sem] at m2 hS2
    have z2 := g2.sub hw z1 (fun b hb => by have := hS1 b hb; omega)
    have hS3 : ∀ b ∈ S2, H.nxt + 3 ≤ b ∧ b < H2.nxt ∧ b ≠ H1.nxt := fun b hb => ⟨by
      rcases g2.2.2.1 b hb with h | h
      · exact (hS1 b h).1
      · omega, c2.lt' (Own.isin o2 b hb), by have := hS2 b hb; omega⟩
    have hcl := Ob.len (Own.rep (W0 := W0) o2)
    obtain ⟨yk, yr, Tk, Tr, rfl, rfl, y0, y1⟩ := o2
    have yk1 := y0.leaf
    have yk2 := y0.one
    have yr1 := y1.leaf
    have yr2 := y1.one
    have e3 : ¬ H.nxt + 2 = H2.nxt := by omega
    have e4 : ¬ H1.nxt = H2.nxt := by omega
    repeat' (first | simp -implicitDefEqProofs only [go_sem] | (simp -implicitDefEqProofs only [b1, b2, e0, e1, e2, e3, e4, if_false, yk1, yk2, yr1, yr2, lk, lr, ck, cr, wr_succ, wr_zero, wr_none, set_set, blk_set_self, Bool.and_self]))
    refine retK_two ⟨_, _, by rw [hMD], ?_, Tk ++ Tr, [H2.nxt], ?_, ?_, ?_⟩
    · refine Sub.set hc.1 (Sub.new hc.1 (Sub.set hc.1 z2.1 ?_ _) _ _) ?_ _ <;> omega
    · rw [hMD]
      refine ModelD.own_mk ?_ ?_
      · exact (((y0.setne (b := H1.nxt) (fun b hb => (hS3 b (List.mem_append_left _ hb)).2.2)).sub ((Sub.refl _).new (c2.set (c2.lt b1) _) _ _))).setne (fun b hb => by have := hS3 b (List.mem_append_left _ hb); omega)
      · exact (((y1.setne (b := H1.nxt) (fun b hb => (hS3 b (List.mem_append_right _ hb)).2.2)).sub ((Sub.refl _).new (c2.set (c2.lt b1) _) _ _))).setne (fun b hb => by have := hS3 b (List.mem_append_right _ hb); omega)
    · rw [hMD]; exact ownNil (by rw [blk_set_ne _ (by omega)]; simp only [go_sem]; rfl)
    · exact Fresh.app ⟨g2.2.2.2, z2.2⟩ ⟨by simp, by intro b hb; simp at hb; omega⟩ (fun b hb hc => by have := hS3 b hb; simp at hc; omega)
  · have hg : modelOk m = true ∧ opOk o = true := by simp_all
    have hmo := (modelOk_iff.1 hg.1)
    have hl1 : m.keys.length ≤ 900 := by have := hmo.1.2.1; omega
    have hl2 : m.rows.length ≤ 900 := by have := (reportOk_iff.1 hmo.2.2).2.1; omega
    have hMD := modelDo_rec hg (by assumption)
    refine ACallK.upd (S := Sk ++ Sr) (H0 := H1) (R := fun v H' S' => ∃ cs', v = .tup [.agg cs', .v (.int .i64 (recDo m o).2)] ∧ Own.own H' S' cs' (recDo m o).1) ?_ hw1 ((Sub.refl _).new hw1 _ _) (fun b hb => (hS1 b hb).2) ?_
    · exact (l13Record_ok _ _ m _ o (Sk ++ Sr) _ (Own.sub o1 ((Sub.refl _).new hw1 _ _)) F1.1 (Ob.sub' ho0) hl2 (recDo_hP hg.1 hg.2 (by assumption))).mono fun v H' ⟨cs', S', h1, h2, h3⟩ => ⟨S', ⟨cs', h1, h2⟩, h3⟩
    rintro _ H2 S2 c2 ⟨cs2, rfl, o2⟩ g2 kp m2 hS2 kq
    have b1 := kp H1.nxt _ (Nat.le_refl _) (by simp only [go_sem]; rfl)
    have b2 := kq (H.nxt + 2) _ (fun hm => by have := hS1 _ hm; omega) (by simp only [go_sem, if_neg e2]; exact a2)
    simp only [go_sem] at m2 hS2
    have z2 := g2.sub hw z1 (fun b hb => by have := hS1 b hb; omega)
    have hS3 : ∀ b ∈ S2, H.nxt + 3 ≤ b ∧ b < H2.nxt ∧ b ≠ H1.nxt := fun b hb => ⟨by
      rcases g2.2.2.1 b hb with h | h
      · exact (hS1 b h).1
      · omega, c2.lt' (Own.isin o2 b hb), by have := hS2 b hb; omega⟩
    have hcl := Ob.len (Own.rep (W0 := W0) o2)
    obtain ⟨yk, yr, Tk, Tr, rfl, rfl, y0, y1⟩ := o2
    have yk1 := y0.leaf
    have yk2 := y0.one
    have yr1 := y1.leaf
    have yr2 := y1.one
    have e3 : ¬ H.nxt + 2 = H2.nxt := by omega
    have e4 : ¬ H1.nxt = H2.nxt := by omega
    repeat' (first | simp -implicitDefEqProofs only [go_sem] | (simp -implicitDefEqProofs only [b1, b2, e0, e1, e2, e3, e4, if_false, yk1, yk2, yr1, yr2, lk, lr, ck, cr, wr_succ, wr_zero, wr_none, set_set, blk_set_self, Bool.and_self]))
    refine retK_two ⟨_, _, by rw [hMD], ?_, Tk ++ Tr, [H2.nxt], ?_, ?_, ?_⟩
    · refine Sub.set hc.1 (Sub.new hc.1 (Sub.set hc.1 z2.1 ?_ _) _ _) ?_ _ <;> omega
    · rw [hMD]
      refine ModelD.own_mk ?_ ?_
      · exact (((y0.setne (b := H1.nxt) (fun b hb => (hS3 b (List.mem_append_left _ hb)).2.2)).sub ((Sub.refl _).new (c2.set (c2.lt b1) _) _ _))).setne (fun b hb => by have := hS3 b (List.mem_append_left _ hb); omega)
      · exact (((y1.setne (b := H1.nxt) (fun b hb => (hS3 b (List.mem_append_right _ hb)).2.2)).sub ((Sub.refl _).new (c2.set (c2.lt b1) _) _ _))).setne (fun b hb => by have := hS3 b (List.mem_append_right _ hb); omega)
    · rw [hMD]; exact ownNil (by rw [blk_set_ne _ (by omega)]; simp only [go_sem]; rfl)
    · exact Fresh.app ⟨g2.2.2.2, z2.2⟩ ⟨by simp, by intro b hb; simp at hb; omega⟩ (fun b hb hc => by have := hS3 b hb; simp at hc; omega)
  · have hg : modelOk m = true ∧ opOk o = true := by simp_all
    have hMD := modelDo_flu hg (by have := opOk_kind hg.2; omega)
    have sx : Sub H1 ((H1.new [uk, AV.sl (H1.nxt + 1) 0 0] 2).new [] 10) := (Sub.refl _).new hw1 _ _ |>.trans ((Sub.refl _).new (hw1.new _ _) _ _)
    obtain ⟨F2, F3, F4⟩ := List.nodup_append.1 F1.1
    refine retK_two ⟨_, _, by rw [hMD], by repeat (first | exact Sub.refl _ | assumption | refine Sub.new hc.1 ?_ _ _ | refine Sub.set hc.1 ?_ (by omega) _ | refine Sub.trans ?_ (by assumption)), Sk ++ [H1.nxt + 1], Sr, ?_, ?_, ?_⟩
    · rw [hMD]; exact ModelD.own_mk ((g0.sub sx).setne (fun b hb => by have := hS1 b (List.mem_append_left _ hb); omega)) (ownNil (by rw [blk_set_ne _ (by omega)]; simp only [go_sem]; rfl))
    · rw [hMD]; exact (g1.sub sx).setne (fun b hb => by have := hS1 b (List.mem_append_right _ hb); omega)
    · refine Fresh.app (Fresh.app (F1.left.le (by simp only [go_sem]; omega)) ⟨by simp, by intro b hb; simp at hb; omega⟩ (fun b hb hc => by have := hS1 b (List.mem_append_left _ hb); simp at hc; omega)) (F1.right.le (by simp only [go_sem]; omega)) (fun b hb hc => ?_)
      rcases List.mem_append.1 hb with hb | hb
      · exact F4 b hb b hc rfl
      · have := hS1 b (List.mem_append_right _ hc); simp at hb; omega
  · have hbad : ¬ (modelOk m = true ∧ opOk o = true) := by simp_all
    have ox : Own.own ((H1.new [uk, ur] 2).new [] 10) (Sk ++ Sr) [uk, ur] m := Own.sub o1 (((Sub.refl _).new hw1 _ _).trans ((Sub.refl _).new (hw1.new _ _) _ _))
    refine retK_two ⟨_, _, by rw [modelDo_bad hbad], by repeat (first | exact Sub.refl _ | assumption | refine Sub.new hc.1 ?_ _ _ | refine Sub.set hc.1 ?_ (by omega) _ | refine Sub.trans ?_ (by assumption)), Sk ++ Sr, [H1.nxt + 1], ?_, ?_, ?_⟩
    · rw [modelDo_bad hbad]; exact Own.eq ox (fun b hb => blk_set_ne _ (by have := hS1 b hb; omega) _)
    · rw [modelDo_bad hbad]; exact ownNil (by rw [blk_set_ne _ (by omega)]; simp only [go_sem]; rfl)
    · exact Fresh.app (F1.le (by simp only [go_sem]; omega)) ⟨by simp, by intro b hb; simp at hb; omega⟩ (fun b hb hc => by have := hS1 b hb; simp at hc; omega)
end Go.Proofs.Ytipfnhfcoolhaaa.Aw
