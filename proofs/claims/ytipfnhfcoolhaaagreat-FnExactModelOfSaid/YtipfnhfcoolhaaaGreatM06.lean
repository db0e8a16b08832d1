/- Parts of a proof: Fc Fm Fn Fo. -/
import Derived.Test.YtipfnhfcoolhaaaGreatM05
import Derived.Test.YtipfnhfcoolhaaaGreatM03
set_option linter.unusedVariables false
set_option linter.unusedSimpArgs false
section
namespace Go.Proofs.YtipfnhfcoolhaaaGreat.Aw
open Go Go.RowKit
set_option maxRecDepth 100000
set_option maxHeartbeats 1000000
theorem eqAt_Row (x y : RowD) : EqAt Tryz.prog 71 [.string x.key, .int .i64 x.kind, .int .i64 x.sum, .bool x.set, .int .i64 x.last, .int .i64 x.n, .int .i64 x.mn, .int .i64 x.mx, .int .i64 x.total, .int .i64 x.dropped] [.string y.key, .int .i64 y.kind, .int .i64 y.sum, .bool y.set, .int .i64 y.last, .int .i64 y.n, .int .i64 y.mn, .int .i64 y.mx, .int .i64 y.total, .int .i64 y.dropped] (decide (x = y)) := by
  refine eqAt_of (r := decide (x = y)) (by kernel_rfl) (Eq.trans (by kernel_rfl : _ = some ((x.key.toList == y.key.toList) && ((x.kind == y.kind) && ((x.sum == y.sum) && ((x.set == y.set) && ((x.last == y.last) && ((x.n == y.n) && ((x.mn == y.mn) && ((x.mx == y.mx) && ((x.total == y.total) && ((x.dropped == y.dropped) && true))))))))))) ?_)
  simp [bytes_eq_iff, RowD.ext_iff']
  rfl
section
variable {α : Type}
def EqTo (xs ys : List α) (i : Nat) : Prop := xs.take i = ys.take i
theorem EqTo.zero (xs ys : List α) : EqTo xs ys 0 := by simp [EqTo]
theorem EqTo.succ {xs ys : List α} {i : Nat} (h : EqTo xs ys i) (h1 : i < xs.length) (h2 : i < ys.length) (he : xs[i] = ys[i]) : EqTo xs ys (i + 1) := by
  unfold EqTo at *
  rw [List.take_succ_eq_append_getElem h1, List.take_succ_eq_append_getElem h2, h, he]
theorem EqTo.done {xs ys : List α} {i : Nat} (h : EqTo xs ys i) (h1 : xs.length ≤ i) (h2 : ys.length ≤ i) : xs = ys := by
  unfold EqTo at h
  rwa [List.take_of_length_le h1, List.take_of_length_le h2] at h
theorem ne_at {xs ys : List α} {i : Nat} (h1 : i < xs.length) (h2 : i < ys.length) (hn : ¬ xs[i] = ys[i]) : ¬ xs = ys := by rintro rfl; exact hn rfl
theorem ne_len {xs ys : List α} (hn : ¬ (xs.length : Int) = ys.length) : ¬ xs = ys := by rintro rfl; exact hn rfl
end
theorem rowAt1_ok (W0 : World) (cs : List AV) (x : RowD) (k : Nat) (key : ByteArray) (H : AH) (hx : Ob.rep W0 H cs x) (hk : H.blk k = some ⟨[.v (.string key)], 1⟩) :
    ACalls Tryz.prog W0 259 [.agg cs, .ptr k 0] H (fun v H' => v = .v (.bool (decide (x.key = key))) ∧ H' = H) := by
  refine acallw Tryz.func259 rfl (by kernel_rfl) (by kernel_rfl) fun hc hw => ?_
  obtain ⟨rfl, hx⟩ := hx
  have hk1 := hw.lt hk
  repeat' (first | simp -implicitDefEqProofs only [go_sem] | (simp -implicitDefEqProofs (disch := omega) only [go_sem, if_neg, hk]) | refine retK_back (by assumption) ?_ | fail)
theorem rowAt_ok (W0 : World) (a : AV) (l : List RowD) (key : ByteArray) (H : AH) (ha : SlR W0 H a l) : ACalls Tryz.prog W0 217 [a, .v (.string key)] H (fun v H' => v = .v (.int .i64 (firstIdx (fun r => decide (r.key = key)) l)) ∧ H' = H) := by
  refine acallw Tryz.func217 rfl (by kernel_rfl) (by kernel_rfl) fun hc hw => ?_
  repeat' (first | simp -implicitDefEqProofs only [go_sem] | refine ACallK.eq (IndexFuncRow_ok _ _ _ _ _ (fun r => decide (r.key = key)) _ (ha.sub (by repeat (first | exact Sub.refl _ | assumption | refine Sub.new (by assumption) ?_ _ _ | refine Sub.kill_new (by assumption) ?_ _ _ | refine Sub.trans ?_ (by assumption)))) (fun cs x hx => rowAt1_ok _ _ _ _ _ _ hx (by simp only [go_sem]))) ?_ | refine retK_back (by assumption) ?_ | fail)
def rowCells (r : RowD) : List AV := [.v (.string r.key), .v (.int .i64 r.kind), .v (.int .i64 r.sum), .v (.bool r.set), .v (.int .i64 r.last), .v (.int .i64 r.n), .v (.int .i64 r.mn), .v (.int .i64 r.mx), .v (.int .i64 r.total), .v (.int .i64 r.dropped)]
@[go_sem] theorem rowCells_row0 : rowCells row0 = [.v (.string ⟨#[]⟩), .v (.int .i64 0), .v (.int .i64 0), .v (.bool false), .v (.int .i64 0), .v (.int .i64 0), .v (.int .i64 0), .v (.int .i64 0), .v (.int .i64 0), .v (.int .i64 0)] := rfl
theorem ModelRow_impl (W0 : World) (cs : List AV) (m : ModelD) (key : ByteArray) (H : AH) (hm : Ob.rep W0 H cs m) : ACalls Tryz.prog W0 215 [.agg cs, .v (.string key)] H (fun v H' => v = .agg (rowCells (modelRow m key)) ∧ H' = H) := by
  refine acallw Tryz.func215 rfl (by kernel_rfl) (by kernel_rfl) fun hc hw => ?_
  have hm' := hm
  obtain ⟨vk, vr, rfl, hk, hr⟩ := hm'
  have hb := hr.2.1; simp only [big] at hb
  rcases firstIdx_cases (fun r => decide (r.key = key)) m.rows with ⟨e1, e2⟩ | ⟨i, hi, e1, e2, e3, -⟩
  · repeat' (first | simp -implicitDefEqProofs only [go_sem] | refine acond_dec (fun _ => ?_) (fun _ => ?_) | refine acond_ndec (fun _ => ?_) (fun _ => ?_) | refine ACallK.eq (rowAt_ok _ _ _ _ _ (hr.sub (by repeat (first | exact Sub.refl _ | assumption | refine Sub.new (by assumption) ?_ _ _ | refine Sub.kill_new (by assumption) ?_ _ _ | refine Sub.trans ?_ (by assumption))))) ?_ | rw [e1] | refine ACallK.eq (ModelKind_impl _ _ m _ _ (Ob.sub (by repeat (first | exact Sub.refl _ | assumption | refine Sub.new (by assumption) ?_ _ _ | refine Sub.kill_new (by assumption) ?_ _ _ | refine Sub.trans ?_ (by assumption))) hm)) ?_ | refine retK_back (by assumption) ?_ | fail)
    · exfalso; omega
    · rw [modelRow, e2]; simp_all; rfl
    · rw [modelRow, e2]; simp_all; rfl
  · repeat' (first | simp -implicitDefEqProofs only [go_sem] | refine acond_dec (fun _ => ?_) (fun _ => ?_) | refine acond_ndec (fun _ => ?_) (fun _ => ?_) | refine aixs_sln (by assumption) ?_ | (refine aK_sl (by assumption) (by omega) ?_; first | rintro _ ⟨rfl, _⟩ | (intro _ hx; obtain ⟨_, rfl, _, _⟩ := EvD.out hx) | (intro _ hx; obtain ⟨_, _, rfl, _, _, _⟩ := JobD.out hx) | rintro _ ⟨_, rfl, _⟩) | refine ACallK.eq (rowAt_ok _ _ _ _ _ (hr.sub (by repeat (first | exact Sub.refl _ | assumption | refine Sub.new (by assumption) ?_ _ _ | refine Sub.kill_new (by assumption) ?_ _ _ | refine Sub.trans ?_ (by assumption))))) ?_ | rw [e1] | refine ACallK.eq (ModelKind_impl _ _ m _ _ (Ob.sub (by repeat (first | exact Sub.refl _ | assumption | refine Sub.new (by assumption) ?_ _ _ | refine Sub.kill_new (by assumption) ?_ _ _ | refine Sub.trans ?_ (by assumption))) hm)) ?_ | refine retK_back (by assumption) ?_ | fail)
    · rw [modelRow, e3]; rfl
    · exfalso; omega
    · exfalso; omega
theorem queueOk_long {t : Nat} {q : QueueD} (h : 10 < (q.ops.length : Int)) : queueOk t q = false := by
  unfold queueOk; rw [decide_eq_false (by omega)]; rfl
theorem queueOk_bad {t : Nat} {q : QueueD} {i : Nat} (h : i < q.ops.length) (hp : (opOk q.ops[i] && (decide (q.ops[i].kind = 3) == decide ((t : Int) = 3))) = false) : queueOk t q = false := by
  unfold queueOk; rw [all_fail h hp, Bool.and_false]
theorem queueOk_good {t : Nat} {q : QueueD} {i : Nat} (h : (q.ops.length : Int) ≤ 10) (hp : AllTo (fun o => opOk o && (decide (o.kind = 3) == decide ((t : Int) = 3))) q.ops i) (hi : q.ops.length ≤ i) : queueOk t q = true := by
  unfold queueOk; rw [all_done hp hi, decide_eq_true h]; rfl
theorem todoOk_bad {l : List QueueD} {t : Nat} (h : t < l.length) (hq : queueOk t l[t] = false) : todoOk l = false := by
  unfold todoOk
  rw [Bool.and_eq_false_iff]; right
  rw [List.all_eq_false]
  exact ⟨t, by simpa using h, by simp [queueAt, List.getElem?_eq_getElem h, hq]⟩
theorem todoOk_good {l : List QueueD} {t : Nat} (hq : ∀ i (h : i < l.length), i < t → queueOk i l[i] = true) (ht : l.length ≤ t) : todoOk l = decide ((l.length : Int) = 4) := by
  unfold todoOk
  rw [show (List.range l.length).all (queueAt l) = true by
    rw [List.all_eq_true]
    intro i hi
    have hi : i < l.length := by simpa using hi
    simp [queueAt, List.getElem?_eq_getElem hi, hq i hi (by omega)]]
  rw [Bool.and_true]
theorem todoOk_len {l : List QueueD} (h : ¬ (l.length : Int) = 4) : todoOk l = false := by
  unfold todoOk; rw [decide_eq_false h]; rfl
theorem TodoOk_spec (W0 : World) (a : AV) (l : List QueueD) (H : AH) (ha : SlR W0 H a l) : ACalls Tryz.prog W0 142 [a] H (fun v H' => v = .v (.bool (todoOk l)) ∧ H' = H) := by
  refine acallw Tryz.func142 rfl (by kernel_rfl) (by kernel_rfl) fun hc hw => ?_
  have hb := ha.2.1; simp only [big] at hb
  repeat' (first | simp -implicitDefEqProofs only [go_sem])
  refine acode_while (fun t : Nat => [(0, a), (3, .v (.int .i64 t))]) (fun t H' => Sub H H' ∧ t ≤ l.length ∧ ∀ i (h : i < l.length), i < t → queueOk i l[i] = true) (fun t => l.length - t) 0 ⟨by repeat (first | exact Sub.refl _ | assumption | refine Sub.new (by assumption) ?_ _ _ | refine Sub.kill_new (by assumption) ?_ _ _ | refine Sub.trans ?_ (by assumption)), by omega, by omega⟩ ?_
  rintro t H' ⟨hs, ht, hP⟩
  repeat' (first | simp -implicitDefEqProofs only [go_sem] | refine acond_dec (fun _ => ?_) (fun _ => ?_) | refine abi_len_sl' (by assumption) ?_ | refine aixs_sln (by assumption) ?_ | refine afa_sl (by assumption) ?_ | (refine aK_sl (by assumption) (by omega) ?_; first | rintro _ ⟨rfl, _⟩ | (intro _ hx; obtain ⟨_, rfl, _, _⟩ := EvD.out hx) | (intro _ hx; obtain ⟨_, _, rfl, _, _, _⟩ := JobD.out hx) | rintro _ ⟨_, rfl, _⟩) | refine retK_back (by assumption) ?_ | fail)
  · rw [todoOk_bad (t := t) (by omega) (queueOk_long (by assumption))]
  · rename_i hl
    refine acode_while (fun i : Nat => [(0, a), (3, .v (.int .i64 t)), (4, .v (.int .i64 i))]) (fun i H' => Sub H H' ∧ i ≤ l[t].ops.length ∧ AllTo (fun o => opOk o && (decide (o.kind = 3) == decide ((t : Int) = 3))) l[t].ops i) (fun i => l[t].ops.length - i) 0 ⟨by repeat (first | exact Sub.refl _ | assumption | refine Sub.new (by assumption) ?_ _ _ | refine Sub.kill_new (by assumption) ?_ _ _ | refine Sub.trans ?_ (by assumption)), by omega, AllTo.zero _ _⟩ ?_
    rintro i H2 ⟨hs2, hi, hQ⟩
    repeat' (first | simp -implicitDefEqProofs only [go_sem] | refine acond_dec (fun _ => ?_) (fun _ => ?_) | refine acond_ndec (fun _ => ?_) (fun _ => ?_) | refine abi_len_sl' (by assumption) ?_ | refine aixs_sln (by assumption) ?_ | refine afa_sl (by assumption) ?_ | (refine aK_sl (by assumption) (by omega) ?_; first | rintro _ ⟨rfl, _⟩ | (intro _ hx; obtain ⟨_, rfl, _, _⟩ := EvD.out hx) | (intro _ hx; obtain ⟨_, _, rfl, _, _, _⟩ := JobD.out hx) | rintro _ ⟨_, rfl, _⟩) | simp -implicitDefEqProofs (disch := omega) only [wrap_in, u8_small, Int.tmod_eq_emod_of_nonneg, Int.tdiv_eq_ediv_of_nonneg] | refine ACallK.eq (OpOk_spec _ _ l[t].ops[i] _ ⟨rfl, by assumption⟩) ?_ | refine agrd_bf (fun _ => ?_) (fun _ => ?_) | refine retK_back (by assumption) ?_ | fail)
    · have hq : queueOk t l[t] = false := queueOk_bad (i := i) (by omega) (by simp_all)
      rw [todoOk_bad (t := t) (by omega) hq]
    · refine back (i + 1) ⟨by repeat (first | exact Sub.refl _ | assumption | refine Sub.new (by assumption) ?_ _ _ | refine Sub.kill_new (by assumption) ?_ _ _ | refine Sub.trans ?_ (by assumption)), by omega, hQ.succ (by omega) ?_⟩
      simp_all
    · have hq : queueOk t l[t] = false := queueOk_bad (i := i) (by omega) (by simp_all)
      rw [todoOk_bad (t := t) (by omega) hq]
    · refine back (t + 1) ⟨by assumption, by omega, fun j hj hjt => ?_⟩
      rcases Nat.lt_succ_iff_lt_or_eq.1 hjt with h | rfl
      · exact hP j hj h
      · exact queueOk_good (by omega) hQ (by omega)
  · rw [todoOk_good hP (by omega)]
theorem TodoOk_impl (W0 : World) (a : AV) (l : List QueueD) (H : AH) (ha : SlR W0 H a l) : ACalls Tryz.prog W0 153 [a] H (fun v H' => v = .v (.bool (todoOk l)) ∧ H' = H) := by
  refine acallw Tryz.func153 rfl (by kernel_rfl) (by kernel_rfl) fun hc hw => ?_
  have hb := ha.2.1; simp only [big] at hb
  repeat' (first | simp -implicitDefEqProofs only [go_sem] | refine acond_ndec (fun _ => ?_) (fun _ => ?_) | refine abi_len_sl' (by assumption) ?_ | refine retK_eq ?_)
  · rw [todoOk_len (by assumption)]
  rename_i hl4
  refine acode_while (fun t : Nat => [(10, a), (11, .v (.int .i64 l.length)), (12, .v (.int .i64 t))]) (fun t H' => Sub H H' ∧ t ≤ l.length ∧ ∀ i (h : i < l.length), i < t → queueOk i l[i] = true) (fun t => l.length - t) 0 ⟨by repeat (first | exact Sub.refl _ | assumption | refine Sub.new (by assumption) ?_ _ _ | refine Sub.kill_new (by assumption) ?_ _ _ | refine Sub.trans ?_ (by assumption)), by omega, by omega⟩ ?_
  rintro t H' ⟨hs, ht, hP⟩
  repeat' (first | simp -implicitDefEqProofs only [go_sem] | refine acond_dec (fun _ => ?_) (fun _ => ?_) | refine abi_len_sl' (by assumption) ?_ | refine aixs_sln (by assumption) ?_ | (refine aK_sl (by assumption) (by omega) ?_; first | rintro _ ⟨rfl, _⟩ | (intro _ hx; obtain ⟨_, rfl, _, _⟩ := EvD.out hx) | (intro _ hx; obtain ⟨_, _, rfl, _, _, _⟩ := JobD.out hx) | rintro _ ⟨_, rfl, _⟩) | rw [SlR.leaf (by assumption)] | refine retK_back (by assumption) ?_ | fail)
  · rw [todoOk_bad (t := t) (by omega) (queueOk_long (by assumption))]
  · rename_i vo ho hl
    refine acode_while (fun i : Nat => [(3, .v (.int .i64 t)), (10, a), (11, .v (.int .i64 l.length)), (12, .v (.int .i64 t)), (22, vo), (23, .v (.int .i64 l[t].ops.length)), (24, .v (.int .i64 i))]) (fun i H' => Sub H H' ∧ i ≤ l[t].ops.length ∧ AllTo (fun o => opOk o && (decide (o.kind = 3) == decide ((t : Int) = 3))) l[t].ops i) (fun i => l[t].ops.length - i) 0 ⟨by repeat (first | exact Sub.refl _ | assumption | refine Sub.new (by assumption) ?_ _ _ | refine Sub.kill_new (by assumption) ?_ _ _ | refine Sub.trans ?_ (by assumption)), by omega, AllTo.zero _ _⟩ ?_
    rintro i H2 ⟨hs2, hi, hQ⟩
    repeat' (first | simp -implicitDefEqProofs only [go_sem] | refine acond_dec (fun _ => ?_) (fun _ => ?_) | refine acond_ndec (fun _ => ?_) (fun _ => ?_) | refine aixs_sln (by assumption) ?_ | (refine aK_sl (by assumption) (by omega) ?_; first | rintro _ ⟨rfl, _⟩ | (intro _ hx; obtain ⟨_, rfl, _, _⟩ := EvD.out hx) | (intro _ hx; obtain ⟨_, _, rfl, _, _, _⟩ := JobD.out hx) | rintro _ ⟨_, rfl, _⟩) | simp -implicitDefEqProofs (disch := omega) only [wrap_in, u8_small, Int.tmod_eq_emod_of_nonneg, Int.tdiv_eq_ediv_of_nonneg] | refine ACallK.eq (OpOk_impl _ _ l[t].ops[i] _ ⟨rfl, by assumption⟩) ?_ | refine agrd_bf (fun _ => ?_) (fun _ => ?_) | refine retK_back (by assumption) ?_ | fail)
    · have hq : queueOk t l[t] = false := queueOk_bad (i := i) (by omega) (by simp_all)
      rw [todoOk_bad (t := t) (by omega) hq]
    · refine back (i + 1) ⟨by repeat (first | exact Sub.refl _ | assumption | refine Sub.new (by assumption) ?_ _ _ | refine Sub.kill_new (by assumption) ?_ _ _ | refine Sub.trans ?_ (by assumption)), by omega, hQ.succ (by omega) ?_⟩
      simp_all
    · have hq : queueOk t l[t] = false := queueOk_bad (i := i) (by omega) (by simp_all)
      rw [todoOk_bad (t := t) (by omega) hq]
    · refine back (t + 1) ⟨by assumption, by omega, fun j hj hjt => ?_⟩
      rcases Nat.lt_succ_iff_lt_or_eq.1 hjt with h | rfl
      · exact hP j hj h
      · exact queueOk_good (by omega) hQ (by omega)
  · rw [todoOk_good hP (by omega), decide_eq_true hl4]
theorem l10Place_ok (W0 : World) (cs : List AV) (j : JobD) (H : AH) (hj : Ob.rep W0 H cs j) : ACalls Tryz.prog W0 239 [.agg cs] H (fun v H' => v = .v (.bool (decide (placeOk j.op.kind j.pc))) ∧ H' = H) := by
  refine acallw Tryz.func239 rfl (by kernel_rfl) (by kernel_rfl) fun hc hw => ?_
  obtain ⟨v, u, rfl, hv, hu, hj⟩ := JobD.out hj
  repeat' (first | simp -implicitDefEqProofs only [go_sem] | refine acond_dec (fun _ => ?_) (fun _ => ?_) | refine agrd_decf (fun _ => ?_) (fun _ => ?_) | refine ACallK.eq (l1In_ok _ _ _ _ _) ?_ | refine retK_back (by assumption) ?_ | fail)
  all_goals (refine bv ?_; first | (simp_all [placeOk]; done) | (simp_all [placeOk]; omega))
theorem l10Count_ok (W0 : World) (cs : List AV) (j : JobD) (H : AH) (hj : Ob.rep W0 H cs j) : ACalls Tryz.prog W0 240 [.agg cs] H (fun v H' => v = .v (.bool (decide (countOk j))) ∧ H' = H) := by
  refine acallw Tryz.func240 rfl (by kernel_rfl) (by kernel_rfl) fun hc hw => ?_
  obtain ⟨v, u, rfl, hv, hu, hj⟩ := JobD.out hj
  repeat' (first | simp -implicitDefEqProofs only [go_sem] | refine acond_dec (fun _ => ?_) (fun _ => ?_) | refine agrd_dec (fun _ => ?_) (fun _ => ?_) | refine abi_len_sl' (by assumption) ?_ | refine ACallK.eq (l1In_ok _ _ _ _ _) ?_ | refine retK_back (by assumption) ?_ | fail)
  all_goals (refine bv ?_; first | (simp_all [countOk]; done) | (simp_all [countOk]; omega))
theorem pcOk_ok (W0 : World) (k p : Int) (H : AH) : ACalls Tryz.prog W0 243 [.v (.int .i64 k), .v (.int .i64 p)] H (fun v H' => v = .v (.bool (decide (p = 11 ∨ if k = 1 then p = 0 ∨ p = 1 else if k = 2 then p = 0 ∨ (2 ≤ p ∧ p ≤ 10) else 12 ≤ p ∧ p ≤ 15))) ∧ H' = H) := by
  refine acallw Tryz.func243 rfl (by kernel_rfl) (by kernel_rfl) fun hc hw => ?_
  repeat' (first | simp -implicitDefEqProofs only [go_sem] | refine acond_dec (fun _ => ?_) (fun _ => ?_) | refine agrd_decf (fun _ => ?_) (fun _ => ?_) | refine ACallK.eq (within_ok _ _ _ _ _) ?_ | refine retK_eq ?_)
  all_goals (refine bv ?_; first | (simp_all []; done) | (simp_all []; omega))
theorem isWord_ok (W0 : World) (n : Int) (H : AH) : ACalls Tryz.prog W0 191 [.v (.int .i64 n)] H (fun v H' => v = .v (.bool (decide (0 ≤ n ∧ n ≤ 281474976710655))) ∧ H' = H) := by
  refine acallw Tryz.func191 rfl (by kernel_rfl) (by kernel_rfl) fun hc hw => ?_
  repeat' (first | simp -implicitDefEqProofs only [go_sem] | refine ACallK.eq (within_ok _ _ _ _ _) ?_ | refine retK_eq ?_)
theorem opOk_kind {o : OpD} (h : opOk o = true) : o.kind = 1 ∨ o.kind = 2 ∨ o.kind = 3 := by
  unfold opOk at h
  split at h
  · exact .inl (by assumption)
  · split at h
    · exact .inr (.inl (by assumption))
    · split at h
      · exact .inr (.inr (by assumption))
      · cases h
theorem JobOk_spec (W0 : World) (cs : List AV) (j : JobD) (H : AH) (hj : Ob.rep W0 H cs j) : ACalls Tryz.prog W0 163 [.agg cs] H (fun v H' => v = .v (.bool (jobOk j)) ∧ H' = H) := by
  refine acallw Tryz.func163 rfl (by kernel_rfl) (by kernel_rfl) fun hc hw => ?_
  obtain ⟨v, u, rfl, hv, hu, hj1⟩ := JobD.out hj
  repeat' (first | simp -implicitDefEqProofs only [go_sem] | refine agrd_dec (fun _ => ?_) (fun _ => ?_) | refine abi_len_sl' (by assumption) ?_ | refine ACallK.eq (OpOk_spec _ _ j.op _ ⟨rfl, by simp only [hj1, and_self]⟩) ?_ | refine ACallK.eq (l10Place_ok _ _ j _ (Ob.sub (by repeat (first | exact Sub.refl _ | assumption | refine Sub.new (by assumption) ?_ _ _ | refine Sub.kill_new (by assumption) ?_ _ _ | refine Sub.trans ?_ (by assumption))) hj)) ?_ | refine ACallK.eq (l10Count_ok _ _ j _ (Ob.sub (by repeat (first | exact Sub.refl _ | assumption | refine Sub.new (by assumption) ?_ _ _ | refine Sub.kill_new (by assumption) ?_ _ _ | refine Sub.trans ?_ (by assumption))) hj)) ?_ | refine ACallK.eq (l1In_ok _ _ _ _ _) ?_ | refine agrd_bt (fun _ => ?_) (fun _ => ?_) | refine retK_back (by assumption) ?_ | fail)
  all_goals (refine bv ?_; first | (simp_all [jobOk]; done) | (simp_all [jobOk]; omega))
attribute [go_sem] rowCells
def rowB (x : RowD) : Prop := x.key.size ≤ big ∧ inI64 x.kind ∧ inI64 x.sum ∧ inI64 x.last ∧ inI64 x.n ∧ inI64 x.mn ∧ inI64 x.mx ∧ inI64 x.total ∧ inI64 x.dropped
theorem SlR.elem {α : Type} [Ob α] {W0 : World} {H : AH} {v : AV} {xs : List α} (h : SlR W0 H v xs) {x : α} (hx : x ∈ xs) : ∃ c, Ob.rep W0 H c x := by
  obtain ⟨i, hi, rfl⟩ := List.mem_iff_getElem.1 hx
  obtain ⟨c, _, hc⟩ := h.rd i hi
  exact ⟨c, hc⟩
theorem row0_B : rowB row0 := ⟨Nat.zero_le _, by simp [row0, inI64]⟩
theorem modelKind_B {W0 : World} {H : AH} {cs : List AV} {m : ModelD} (hm : Ob.rep W0 H cs m) (key : ByteArray) : inI64 (modelKind m key) := by
  obtain ⟨vk, vr, rfl, hk, hr⟩ := hm
  unfold modelKind
  split
  · rename_i k h
    obtain ⟨c, hc⟩ := hk.elem (List.mem_of_find?_eq_some h)
    exact hc.2.2
  · simp [inI64]
theorem modelRow_B {W0 : World} {H : AH} {cs : List AV} {m : ModelD} (hm : Ob.rep W0 H cs m) {key : ByteArray} (hl : key.size ≤ big) : rowB (modelRow m key) := by
  have h0 := modelKind_B hm key
  obtain ⟨vk, vr, rfl, hk, hr⟩ := hm
  unfold modelRow
  split
  · rename_i r h
    obtain ⟨c, hc⟩ := hr.elem (List.mem_of_find?_eq_some h)
    exact hc.2
  · split
    · exact row0_B
    · exact ⟨hl, h0, row0_B.2.2⟩
end Go.Proofs.YtipfnhfcoolhaaaGreat.Aw
end
section
namespace Go.Proofs.YtipfnhfcoolhaaaGreat.Aw
open Go Go.RowKit
set_option maxRecDepth 100000
set_option maxHeartbeats 1000000
theorem CellsOk_spec (W0 : World) (v : AV) (a : List Int) (H : AH) (ha : SlR W0 H v a) : ACalls Tryz.prog W0 112 [v] H (fun v H' => v = .v (.bool (cellsOk a)) ∧ H' = H) := by
  refine acallw Tryz.func112 rfl (by kernel_rfl) (by kernel_rfl) fun hc hw => ?_
  have hb := ha.2.1; simp only [big] at hb
  repeat' (first | simp -implicitDefEqProofs only [go_sem])
  refine acode_while (fun i : Nat => [(0, v), (3, .v (.int .i64 i))]) (fun i H' => H' = H ∧ i ≤ a.length ∧ AllTo (fun n => decide (wordP n)) a i) (fun i => a.length - i) 0 ⟨rfl, by omega, AllTo.zero _ _⟩ ?_
  rintro i _ ⟨rfl, hi, hP⟩
  repeat' (first | simp -implicitDefEqProofs only [go_sem] | refine acond_dec (fun _ => ?_) (fun _ => ?_) | refine acond_ndec (fun _ => ?_) (fun _ => ?_) | refine abi_len_sl' (by assumption) ?_ | refine aixs_sln (by assumption) ?_ | (refine aK_sl (by assumption) (by omega) ?_; first | rintro _ ⟨rfl, _⟩ | (intro _ hx; obtain ⟨_, rfl, _, _⟩ := EvD.out hx) | (intro _ hx; obtain ⟨_, _, rfl, _, _, _⟩ := JobD.out hx) | rintro _ ⟨_, rfl, _⟩) | simp -implicitDefEqProofs (disch := omega) only [wrap_in, u8_small, Int.tmod_eq_emod_of_nonneg, Int.tdiv_eq_ediv_of_nonneg] | refine ACallK.eq (l1In_ok _ _ _ _ _) ?_ | refine retK_eq ?_)
  · have : a.all (fun n => decide (wordP n)) = false := all_fail (i := i) (by omega) (decide_eq_false (by assumption))
    rw [cellsOk, this]; rfl
  · exact back (i + 1) ⟨by omega, hP.succ (by omega) (decide_eq_true (by assumption))⟩
  · rw [cellsOk, all_done hP (by omega)]; rfl
theorem IndexFuncInt_ok (W0 : World) (v : AV) (xs : List Int) (g : FuncId) (caps : List AV) (p : Int → Bool) (H : AH) (ha : SlR W0 H v xs) (hp : ∀ x, inI64 x → ACalls Tryz.prog W0 g (.v (.int .i64 x) :: caps) H (fun v H' => v = .v (.bool (p x)) ∧ H' = H)) :
    ACalls Tryz.prog W0 252 [v, .fn g caps] H (fun v H' => v = .v (.int .i64 (firstIdx p xs)) ∧ H' = H) := by
  refine acallw Tryz.func252 rfl (by kernel_rfl) (by kernel_rfl) fun hc hw => ?_
  have hb := ha.2.1; simp only [big] at hb
  repeat' (first | simp -implicitDefEqProofs only [go_sem] | refine abi_len_sl' (by assumption) ?_ | fail)
  refine acode_while (fun i : Nat => [(0, v), (1, .fn g caps), (7, .v (.int .i64 xs.length)), (8, .v (.int .i64 i))]) (fun i H' => H' = H ∧ i ≤ xs.length ∧ NoneTo p xs i) (fun i => xs.length - i) 0 ⟨rfl, by omega, NoneTo.zero _ _⟩ ?_
  rintro i _ ⟨rfl, hi, hP⟩
  repeat' (first | simp -implicitDefEqProofs only [go_sem] | refine acond_dec (fun _ => ?_) (fun _ => ?_) | refine aixs_sln (by assumption) ?_ | (refine aK_sl (by assumption) (by omega) ?_; first | rintro _ ⟨rfl, _⟩ | (intro _ hx; obtain ⟨_, rfl, _, _⟩ := EvD.out hx) | (intro _ hx; obtain ⟨_, _, rfl, _, _, _⟩ := JobD.out hx) | rintro _ ⟨_, rfl, _⟩) | simp -implicitDefEqProofs (disch := omega) only [wrap_in, u8_small, Int.tmod_eq_emod_of_nonneg, Int.tdiv_eq_ediv_of_nonneg] | refine ACallK.eq (hp _ (by assumption)) ?_ | refine acond_split (fun _ => ?_) (fun _ => ?_) | refine retK_eq ?_)
  · rw [idx_hit hP (by omega) (by assumption)]
  · exact back (i + 1) ⟨by omega, hP.succ (by omega) (by assumption)⟩
  · rw [idx_none hP (by omega)]
theorem firstIdx_any {α : Type} (p : α → Bool) (xs : List α) : decide (0 ≤ firstIdx p xs) = xs.any p := by
  rcases firstIdx_cases p xs with ⟨e1, e2⟩ | ⟨i, hi, e1, e2, e3, -⟩
  · rw [e1, Bool.eq_iff_iff]
    simp
    simpa using e2
  · rw [e1, decide_eq_true (by omega)]
    symm
    rw [List.any_eq_true]
    exact ⟨xs[i], List.getElem_mem hi, e2⟩
theorem ContainsInt_ok (W0 : World) (v : AV) (xs : List Int) (g : FuncId) (caps : List AV) (p : Int → Bool) (H : AH) (ha : SlR W0 H v xs) (hp : ∀ x, inI64 x → ACalls Tryz.prog W0 g (.v (.int .i64 x) :: caps) H (fun v H' => v = .v (.bool (p x)) ∧ H' = H)) :
    ACalls Tryz.prog W0 189 [v, .fn g caps] H (fun v H' => v = .v (.bool (xs.any p)) ∧ H' = H) := by
  refine acallw Tryz.func189 rfl (by kernel_rfl) (by kernel_rfl) fun hc hw => ?_
  repeat' (first | simp -implicitDefEqProofs only [go_sem] | refine ACallK.eq (IndexFuncInt_ok _ _ _ _ _ p _ ha hp) ?_ | refine retK_eq ?_)
  rw [firstIdx_any]
theorem CellsOk1_ok (W0 : World) (x : Int) (H : AH) : ACalls Tryz.prog W0 190 [.v (.int .i64 x)] H (fun v H' => v = .v (.bool (!decide (wordP x))) ∧ H' = H) := by
  refine acallw Tryz.func190 rfl (by kernel_rfl) (by kernel_rfl) fun hc hw => ?_
  repeat' (first | simp -implicitDefEqProofs only [go_sem] | refine ACallK.eq (isWord_ok _ _ _) ?_ | refine retK_eq ?_)
  rfl
theorem CellsOk_impl (W0 : World) (v : AV) (a : List Int) (H : AH) (ha : SlR W0 H v a) : ACalls Tryz.prog W0 100 [v] H (fun v H' => v = .v (.bool (cellsOk a)) ∧ H' = H) := by
  refine acallw Tryz.func100 rfl (by kernel_rfl) (by kernel_rfl) fun hc hw => ?_
  repeat' (first | simp -implicitDefEqProofs only [go_sem] | refine agrd_dec (fun _ => ?_) (fun _ => ?_) | refine abi_len_sl' (by assumption) ?_ | refine ACallK.eq (ContainsInt_ok _ _ a _ _ (fun x => !decide (wordP x)) _ ha (fun x _ => CellsOk1_ok _ x _)) ?_ | refine retK_eq ?_)
  all_goals (refine bv ?_; simp_all [cellsOk])
theorem l2Mod_ok (W0 : World) (n : Int) (H : AH) (hn : inI64 n) : ACalls Tryz.prog W0 197 [.v (.int .i64 n)] H (fun v H' => v = .v (.int .i64 (n % 281474976710656)) ∧ H' = H) := by
  refine acallw Tryz.func197 rfl (by kernel_rfl) (by kernel_rfl) fun hc hw => ?_
  simp only [inI64] at hn
  have ht : -281474976710656 < n.tmod 281474976710656 ∧ n.tmod 281474976710656 < 281474976710656 ∧ (n.tmod 281474976710656) % 281474976710656 = n % 281474976710656 := by
    by_cases h : 0 ≤ n
    · rw [Int.tmod_eq_emod_of_nonneg h]; omega
    · obtain ⟨m, rfl⟩ : ∃ m, n = -m := ⟨-n, by omega⟩
      rw [Int.neg_tmod, Int.tmod_eq_emod_of_nonneg (by omega)]; omega
  have hw : IntKind.i64.wrap (n.tmod 281474976710656 + 281474976710656) = n.tmod 281474976710656 + 281474976710656 := Go.IntWalk.i64_in _ (by omega)
  repeat' (first | simp -implicitDefEqProofs only [go_sem] | simp -implicitDefEqProofs (disch := omega) only [wrap_in, u8_small, Int.tmod_eq_emod_of_nonneg, Int.tdiv_eq_ediv_of_nonneg] | refine retK_eq ?_)
  refine iv ?_
  omega
theorem SlotBase_spec (W0 : World) (b s : Int) (H : AH) : ACalls Tryz.prog W0 119 [.v (.int .i64 b), .v (.int .i64 s)] H (fun v H' => v = .v (.int .i64 (slotBase b s)) ∧ H' = H) := by
  refine acallw Tryz.func119 rfl (by kernel_rfl) (by kernel_rfl) fun hc hw => ?_
  repeat' (first | simp -implicitDefEqProofs only [go_sem] | refine acond_ndec (fun _ => ?_) (fun _ => ?_) | refine agrd_ndecf (fun _ => ?_) (fun _ => ?_) | simp -implicitDefEqProofs (disch := omega) only [wrap_in, u8_small, Int.tmod_eq_emod_of_nonneg, Int.tdiv_eq_ediv_of_nonneg] | refine ACallK.eq (l1In_ok _ _ _ _ _) ?_ | refine retK_eq ?_)
  all_goals (refine iv ?_; simp only [slotBase]; (try rw [Go.IntWalk.i64_in _ (by omega)]); first | done | (split <;> first | done | omega | (split <;> omega)) | omega)
theorem SlotBase_impl (W0 : World) (b s : Int) (H : AH) : ACalls Tryz.prog W0 116 [.v (.int .i64 b), .v (.int .i64 s)] H (fun v H' => v = .v (.int .i64 (slotBase b s)) ∧ H' = H) := by
  refine acallw Tryz.func116 rfl (by kernel_rfl) (by kernel_rfl) fun hc hw => ?_
  repeat' (first | simp -implicitDefEqProofs only [go_sem] | refine acond_ndec (fun _ => ?_) (fun _ => ?_) | refine agrd_ndecf (fun _ => ?_) (fun _ => ?_) | simp -implicitDefEqProofs (disch := omega) only [wrap_in, u8_small, Int.tmod_eq_emod_of_nonneg, Int.tdiv_eq_ediv_of_nonneg] | refine ACallK.eq (within_ok _ _ _ _ _) ?_ | refine retK_eq ?_)
  all_goals (refine iv ?_; simp only [slotBase]; (try rw [Go.IntWalk.i64_in _ (by omega)]); first | done | (split <;> first | done | omega | (split <;> omega)) | omega)
theorem KeyCell_spec (W0 : World) (s : Int) (H : AH) : ACalls Tryz.prog W0 48 [.v (.int .i64 s)] H (fun v H' => v = .v (.int .i64 (keyCell s)) ∧ H' = H) := by
  refine acallw Tryz.func48 rfl (by kernel_rfl) (by kernel_rfl) fun hc hw => ?_
  repeat' (first | simp -implicitDefEqProofs only [go_sem] | refine acond_ndec (fun _ => ?_) (fun _ => ?_) | simp -implicitDefEqProofs (disch := omega) only [wrap_in, u8_small, Int.tmod_eq_emod_of_nonneg, Int.tdiv_eq_ediv_of_nonneg] | refine ACallK.eq (l1In_ok _ _ _ _ _) ?_ | refine retK_eq ?_)
  all_goals (refine iv ?_; simp only [keyCell]; (try rw [Go.IntWalk.i64_in _ (by omega)]); first | done | (split <;> first | done | omega | (split <;> omega)) | omega)
theorem KeyCell_impl (W0 : World) (s : Int) (H : AH) : ACalls Tryz.prog W0 118 [.v (.int .i64 s)] H (fun v H' => v = .v (.int .i64 (keyCell s)) ∧ H' = H) := by
  refine acallw Tryz.func118 rfl (by kernel_rfl) (by kernel_rfl) fun hc hw => ?_
  repeat' (first | simp -implicitDefEqProofs only [go_sem] | refine acond_ndec (fun _ => ?_) (fun _ => ?_) | simp -implicitDefEqProofs (disch := omega) only [wrap_in, u8_small, Int.tmod_eq_emod_of_nonneg, Int.tdiv_eq_ediv_of_nonneg] | refine ACallK.eq (within_ok _ _ _ _ _) ?_ | refine retK_eq ?_)
  all_goals (refine iv ?_; simp only [keyCell]; (try rw [Go.IntWalk.i64_in _ (by omega)]); first | done | (split <;> first | done | omega | (split <;> omega)) | omega)
theorem PackGauge_impl (W0 : World) (s x : Int) (H : AH) : ACalls Tryz.prog W0 108 [.v (.int .i64 s), .v (.int .i64 x)] H (fun v H' => v = .v (.int .i64 (packGauge s x)) ∧ H' = H) := by
  refine acallw Tryz.func108 rfl (by kernel_rfl) (by kernel_rfl) fun hc hw => ?_
  repeat' (first | simp -implicitDefEqProofs only [go_sem] | refine acond_ndec (fun _ => ?_) (fun _ => ?_) | refine agrd_ndecf (fun _ => ?_) (fun _ => ?_) | simp -implicitDefEqProofs (disch := omega) only [wrap_in, u8_small, Int.tmod_eq_emod_of_nonneg, Int.tdiv_eq_ediv_of_nonneg] | refine ACallK.eq (within_ok _ _ _ _ _) ?_ | refine retK_eq ?_)
  all_goals (refine iv ?_; simp only [packGauge]; (try rw [Go.IntWalk.i64_in _ (by omega)]); first | done | (split <;> first | done | omega | (split <;> omega)) | omega)
theorem PackGauge_spec (W0 : World) (s x : Int) (H : AH) : ACalls Tryz.prog W0 201 [.v (.int .i64 s), .v (.int .i64 x)] H (fun v H' => v = .v (.int .i64 (packGauge s x)) ∧ H' = H) := by
  refine acallw Tryz.func201 rfl (by kernel_rfl) (by kernel_rfl) fun hc hw => ?_
  repeat' (first | simp -implicitDefEqProofs only [go_sem] | refine acond_ndec (fun _ => ?_) (fun _ => ?_) | refine agrd_ndecf (fun _ => ?_) (fun _ => ?_) | simp -implicitDefEqProofs (disch := omega) only [wrap_in, u8_small, Int.tmod_eq_emod_of_nonneg, Int.tdiv_eq_ediv_of_nonneg] | refine ACallK.eq (l1In_ok _ _ _ _ _) ?_ | refine retK_eq ?_)
  all_goals (refine iv ?_; simp only [packGauge]; (try rw [Go.IntWalk.i64_in _ (by omega)]); first | done | (split <;> first | done | omega | (split <;> omega)) | omega)
theorem UnpackGauge_spec (W0 : World) (n : Int) (H : AH) (hn : inI64 n) : ACalls Tryz.prog W0 199 [.v (.int .i64 n)] H (fun v H' => v = .tup [.v (.int .i64 (unpackGauge n).1), .v (.int .i64 (unpackGauge n).2)] ∧ H' = H) := by
  refine acallw Tryz.func199 rfl (by kernel_rfl) (by kernel_rfl) fun hc hw => ?_
  repeat' (first | simp -implicitDefEqProofs only [go_sem] | refine acond_ndec (fun _ => ?_) (fun _ => ?_) | simp -implicitDefEqProofs (disch := omega) only [wrap_in, u8_small, Int.tmod_eq_emod_of_nonneg, Int.tdiv_eq_ediv_of_nonneg] | refine ACallK.eq (l1In_ok _ _ _ _ _) ?_ | refine retK_eq ?_)
  all_goals (refine tv ?_; unfold unpackGauge; simp_all <;> (rw [if_neg (by omega)]; simp))
theorem UnpackGauge_impl (W0 : World) (n : Int) (H : AH) (hn : inI64 n) : ACalls Tryz.prog W0 105 [.v (.int .i64 n)] H (fun v H' => v = .tup [.v (.int .i64 (unpackGauge n).1), .v (.int .i64 (unpackGauge n).2)] ∧ H' = H) := by
  refine acallw Tryz.func105 rfl (by kernel_rfl) (by kernel_rfl) fun hc hw => ?_
  simp only [inI64] at hn
  by_cases hn0 : 0 ≤ n
  · repeat' (first | simp -implicitDefEqProofs only [go_sem] | refine acond_ndec (fun _ => ?_) (fun _ => ?_) | refine agrd_decf (fun _ => ?_) (fun _ => ?_) | simp -implicitDefEqProofs (disch := omega) only [wrap_in, u8_small, Int.tmod_eq_emod_of_nonneg, Int.tdiv_eq_ediv_of_nonneg] | refine ACallK.eq (PackGauge_impl _ _ _ _) ?_ | refine retK_eq ?_)
    all_goals
      refine tv ?_
      have hd := Int.emod_add_mul_ediv n 65536
      have hm : 0 ≤ n % 65536 ∧ n % 65536 < 65536 := by omega
      by_cases hr : 65536 ≤ n ∧ n ≤ 4294967295
      · have hp : packGauge (n / 65536) (n % 65536) = n := by rw [packGauge, if_pos (by omega)]; omega
        first | (exfalso; omega) | rw [unpackGauge, if_pos hr]
      · have hp : packGauge (n / 65536) (n % 65536) ≠ n ∨ n < 1 := by
          by_cases h1 : n < 1
          · exact .inr h1
          · left; rw [packGauge, if_neg (by omega)]; omega
        first | (exfalso; omega) | rw [unpackGauge, if_neg hr]
  · repeat' (first | simp -implicitDefEqProofs only [go_sem] | refine acond_ndec (fun _ => ?_) (fun _ => ?_) | refine agrd_decf (fun _ => ?_) (fun _ => ?_) | simp -implicitDefEqProofs (disch := omega) only [wrap_in, u8_small, Int.tmod_eq_emod_of_nonneg, Int.tdiv_eq_ediv_of_nonneg] | refine ACallK.eq (PackGauge_impl _ _ _ _) ?_ | refine retK_eq ?_)
    all_goals (first | (exfalso; omega) | (rw [unpackGauge, if_neg (by omega)]))
end Go.Proofs.YtipfnhfcoolhaaaGreat.Aw
end
section
namespace Go.Proofs.YtipfnhfcoolhaaaGreat.Aw
open Go Go.RowKit
set_option maxRecDepth 100000
set_option maxHeartbeats 2000000
theorem Quiet_spec (W0 : World) (cs : List AV) (r : RowD) (H : AH) (hr : Ob.rep W0 H cs r) : ACalls Tryz.prog W0 124 [.agg cs] H (fun v H' => v = .v (.bool (quiet r)) ∧ H' = H) := by
  refine acallw Tryz.func124 rfl (by kernel_rfl) (by kernel_rfl) fun hc hw => ?_
  obtain ⟨rfl, hr⟩ := hr
  repeat' (first | simp -implicitDefEqProofs only [go_sem] | refine agrd_dec (fun _ => ?_) (fun _ => ?_) | refine agrd_bt (fun _ => ?_) (fun _ => ?_) | refine retK_back (by assumption) ?_ | fail)
  all_goals (refine bv ?_; first | (simp_all [quiet]; done) | (simp_all [quiet]; omega))
theorem Quiet_impl (W0 : World) (cs : List AV) (r : RowD) (H : AH) (hr : Ob.rep W0 H cs r) : ACalls Tryz.prog W0 224 [.agg cs] H (fun v H' => v = .v (.bool (quiet r)) ∧ H' = H) := by
  refine acallw Tryz.func224 rfl (by kernel_rfl) (by kernel_rfl) fun hc hw => ?_
  obtain ⟨rfl, hr⟩ := hr
  repeat' (first | simp -implicitDefEqProofs only [go_sem] | refine agrd_dec (fun _ => ?_) (fun _ => ?_) | refine retK_back (by assumption) ?_ | fail)
  all_goals (refine bv ?_; first | (simp_all [quiet]; done) | (simp_all [quiet]; omega))
theorem eqAt_RowF (a0 : ByteArray) (a1 : Int) (a2 : Int) (a3 : Bool) (a4 : Int) (a5 : Int) (a6 : Int) (a7 : Int) (a8 : Int) (a9 : Int) (b0 : ByteArray) (b1 : Int) (b2 : Int) (b3 : Bool) (b4 : Int) (b5 : Int) (b6 : Int) (b7 : Int) (b8 : Int) (b9 : Int) : EqAt Tryz.prog 71 [.string a0, .int .i64 a1, .int .i64 a2, .bool a3, .int .i64 a4, .int .i64 a5, .int .i64 a6, .int .i64 a7, .int .i64 a8, .int .i64 a9] [.string b0, .int .i64 b1, .int .i64 b2, .bool b3, .int .i64 b4, .int .i64 b5, .int .i64 b6, .int .i64 b7, .int .i64 b8, .int .i64 b9] (decide ((⟨a0, a1, a2, a3, a4, a5, a6, a7, a8, a9⟩ : RowD) = ⟨b0, b1, b2, b3, b4, b5, b6, b7, b8, b9⟩)) := eqAt_Row ⟨a0, a1, a2, a3, a4, a5, a6, a7, a8, a9⟩ ⟨b0, b1, b2, b3, b4, b5, b6, b7, b8, b9⟩
theorem mul3 {n x : Int} (hn : 1 ≤ n ∧ n ≤ 3) (hx : 0 ≤ x ∧ x ≤ 65535) : 0 ≤ n * x ∧ n * x ≤ 196605 ∧ x * n = n * x := by
  have : n = 1 ∨ n = 2 ∨ n = 3 := by omega
  rcases this with rfl | rfl | rfl <;> omega
theorem l7Timer_ok (W0 : World) (cs : List AV) (r : RowD) (H : AH) (hr : Ob.rep W0 H cs r) : ACalls Tryz.prog W0 270 [.agg cs] H (fun v H' => v = .v (.bool (decide (timerP r))) ∧ H' = H) := by
  refine acallw Tryz.func270 rfl (by kernel_rfl) (by kernel_rfl) fun hc hw => ?_
  obtain ⟨rfl, hr⟩ := hr
  by_cases hb : (1 ≤ r.n ∧ r.n ≤ 3) ∧ (0 ≤ r.mn ∧ r.mn ≤ r.mx) ∧ r.mx ≤ 65535
  · obtain ⟨h1, h2, h3⟩ := hb
    have m1 := mul3 h1 (x := r.mn) (by omega)
    have m2 := mul3 h1 (x := r.mx) (by omega)
    repeat' (first | simp -implicitDefEqProofs only [go_sem] | refine acond_dec (fun _ => ?_) (fun _ => ?_) | refine agrd_dec (fun _ => ?_) (fun _ => ?_) | refine agrd_decf (fun _ => ?_) (fun _ => ?_) | simp -implicitDefEqProofs (disch := omega) only [wrap_in, u8_small, Int.tmod_eq_emod_of_nonneg, Int.tdiv_eq_ediv_of_nonneg] | refine ACallK.eq (l1In_ok _ _ _ _ _) ?_ | refine retK_back (by assumption) ?_ | fail)
    all_goals (refine bv ?_; first | (simp_all [timerP]; done) | (simp_all [timerP]; omega))
  · repeat' (first | simp -implicitDefEqProofs only [go_sem] | refine acond_dec (fun _ => ?_) (fun _ => ?_) | refine agrd_dec (fun _ => ?_) (fun _ => ?_) | refine agrd_decf (fun _ => ?_) (fun _ => ?_) | simp -implicitDefEqProofs (disch := omega) only [wrap_in, u8_small, Int.tmod_eq_emod_of_nonneg, Int.tdiv_eq_ediv_of_nonneg] | refine ACallK.eq (l1In_ok _ _ _ _ _) ?_ | refine retK_back (by assumption) ?_ | fail)
    all_goals (refine bv ?_; first | (simp_all [timerP]; done) | (simp_all [timerP]; omega))
theorem RowOk_spec (W0 : World) (cs : List AV) (r : RowD) (H : AH) (hr : Ob.rep W0 H cs r) : ACalls Tryz.prog W0 256 [.agg cs] H (fun v H' => v = .v (.bool (rowOk r)) ∧ H' = H) := by
  refine acallw Tryz.func256 rfl (by kernel_rfl) (by kernel_rfl) fun hc hw => ?_
  have hr' := hr
  obtain ⟨rfl, h1, hb⟩ := hr'
  repeat' (first | simp -implicitDefEqProofs only [go_sem] | refine acond_dec (fun _ => ?_) (fun _ => ?_) | refine agrd_dec (fun _ => ?_) (fun _ => ?_) | refine ACallK.eq (KeyOk_spec _ _ _ h1) ?_ | refine ACallK.eq (l1In_ok _ _ _ _ _) ?_ | refine ACallK.eq (l7Timer_ok _ _ r _ (Ob.sub (by repeat (first | exact Sub.refl _ | assumption | refine Sub.new (by assumption) ?_ _ _ | refine Sub.kill_new (by assumption) ?_ _ _ | refine Sub.trans ?_ (by assumption))) hr)) ?_ | (refine agg_eq (eqAt_RowF _ _ _ _ _ _ _ _ _ _ _ _ _ _ _ _ _ _ _ _) ?_) | refine acond_split (fun _ => ?_) (fun _ => ?_) | refine agrd_bt (fun _ => ?_) (fun _ => ?_) | refine agrd_bf (fun _ => ?_) (fun _ => ?_) | refine retK_back (by assumption) ?_ | fail)
  all_goals (refine bv ?_; first | (simp_all [rowOk, rowP, wordP, RowD.ext_iff']; done) | (simp_all [rowOk, rowP, wordP, RowD.ext_iff']; omega))
theorem RowOk_impl (W0 : World) (cs : List AV) (r : RowD) (H : AH) (hr : Ob.rep W0 H cs r) : ACalls Tryz.prog W0 255 [.agg cs] H (fun v H' => v = .v (.bool (rowOk r)) ∧ H' = H) := by
  refine acallw Tryz.func255 rfl (by kernel_rfl) (by kernel_rfl) fun hc hw => ?_
  have hr' := hr
  obtain ⟨rfl, h1, hb⟩ := hr'
  by_cases hq : (1 ≤ r.n ∧ r.n ≤ 3) ∧ (0 ≤ r.mn ∧ r.mn ≤ r.mx) ∧ r.mx ≤ 65535
  · obtain ⟨g1, g2, g3⟩ := hq
    have m1 := mul3 g1 (x := r.mn) (by omega)
    have m2 := mul3 g1 (x := r.mx) (by omega)
    repeat' (first | simp -implicitDefEqProofs only [go_sem] | refine acond_dec (fun _ => ?_) (fun _ => ?_) | refine acond_ndec (fun _ => ?_) (fun _ => ?_) | refine agrd_dec (fun _ => ?_) (fun _ => ?_) | refine agrd_decf (fun _ => ?_) (fun _ => ?_) | simp -implicitDefEqProofs (disch := omega) only [wrap_in, u8_small, Int.tmod_eq_emod_of_nonneg, Int.tdiv_eq_ediv_of_nonneg] | refine ACallK.eq (KeyOk_impl _ _ _ h1) ?_ | refine ACallK.eq (within_ok _ _ _ _ _) ?_ | refine ACallK.eq (isWord_ok _ _ _) ?_ | (refine agg_eq (eqAt_RowF _ _ _ _ _ _ _ _ _ _ _ _ _ _ _ _ _ _ _ _) ?_) | (refine agg_ne (eqAt_RowF _ _ _ _ _ _ _ _ _ _ _ _ _ _ _ _ _ _ _ _) ?_) | refine acond_split (fun _ => ?_) (fun _ => ?_) | refine agrd_bf (fun _ => ?_) (fun _ => ?_) | refine retK_back (by assumption) ?_ | fail)
    all_goals (refine bv ?_; first | (simp_all [rowOk, rowP, wordP, timerP, RowD.ext_iff']; done) | (simp_all [rowOk, rowP, wordP, timerP, RowD.ext_iff']; omega))
  · repeat' (first | simp -implicitDefEqProofs only [go_sem] | refine acond_dec (fun _ => ?_) (fun _ => ?_) | refine acond_ndec (fun _ => ?_) (fun _ => ?_) | refine agrd_dec (fun _ => ?_) (fun _ => ?_) | refine agrd_decf (fun _ => ?_) (fun _ => ?_) | simp -implicitDefEqProofs (disch := omega) only [wrap_in, u8_small, Int.tmod_eq_emod_of_nonneg, Int.tdiv_eq_ediv_of_nonneg] | refine ACallK.eq (KeyOk_impl _ _ _ h1) ?_ | refine ACallK.eq (within_ok _ _ _ _ _) ?_ | refine ACallK.eq (isWord_ok _ _ _) ?_ | (refine agg_eq (eqAt_RowF _ _ _ _ _ _ _ _ _ _ _ _ _ _ _ _ _ _ _ _) ?_) | (refine agg_ne (eqAt_RowF _ _ _ _ _ _ _ _ _ _ _ _ _ _ _ _ _ _ _ _) ?_) | refine acond_split (fun _ => ?_) (fun _ => ?_) | refine agrd_bf (fun _ => ?_) (fun _ => ?_) | refine retK_back (by assumption) ?_ | fail)
    all_goals (refine bv ?_; first | (simp_all [rowOk, rowP, wordP, timerP, RowD.ext_iff']; done) | (simp_all [rowOk, rowP, wordP, timerP, RowD.ext_iff']; omega))
end Go.Proofs.YtipfnhfcoolhaaaGreat.Aw
end
section
namespace Go.Proofs.YtipfnhfcoolhaaaGreat.Aw
open Go Go.RowKit
set_option maxRecDepth 100000
set_option maxHeartbeats 2000000
theorem timer_bd {r : RowD} (h : rowP r) (hk : r.kind = 3) : r.sum = 0 ∧ (0 ≤ r.n ∧ r.n ≤ 3) ∧ (0 ≤ r.mn ∧ r.mn ≤ 65535) ∧ (0 ≤ r.mx ∧ r.mx ≤ 65535) ∧ (0 ≤ r.total ∧ r.total ≤ 196605) ∧ 0 ≤ r.dropped ∧ r.dropped ≤ 65535 := by
  have h := h.2
  simp only [hk, if_true, show ¬ ((3 : Int) = 1) by decide, show ¬ ((3 : Int) = 2) by decide, if_false] at h
  obtain ⟨h1, h2, h3, h4⟩ := h
  unfold timerP at h4
  split at h4
  · omega
  · obtain ⟨g1, g2, g3, g4, g5, g6⟩ := h4
    have m1 := mul3 g1 (x := r.mn) (by omega)
    have m2 := mul3 g1 (x := r.mx) (by omega)
    omega
theorem Sampled_spec (W0 : World) (cs : List AV) (r : RowD) (v : Int) (H : AH) (hr : Ob.rep W0 H cs r) : ACalls Tryz.prog W0 206 [.agg cs, .v (.int .i64 v)] H (fun u H' => u = .agg (rowCells (sampled r v)) ∧ H' = H) := by
  refine acallw Tryz.func206 rfl (by kernel_rfl) (by kernel_rfl) fun hc hw => ?_
  have hr' := hr
  obtain ⟨rfl, hb⟩ := hr'
  by_cases hp : rowP r ∧ r.kind = 3 ∧ 0 ≤ v ∧ v ≤ 65535
  · have hk : rowOk r = true := decide_eq_true hp.1
    have hbd := timer_bd hp.1 hp.2.1
    repeat' (first | simp -implicitDefEqProofs only [go_sem] | refine acond_dec (fun _ => ?_) (fun _ => ?_) | refine acond_ndec (fun _ => ?_) (fun _ => ?_) | refine agrd_ndecf (fun _ => ?_) (fun _ => ?_) | simp -implicitDefEqProofs (disch := omega) only [wrap_in, u8_small, Int.tmod_eq_emod_of_nonneg, Int.tdiv_eq_ediv_of_nonneg] | refine ACallK.eq (RowOk_spec _ _ r _ (Ob.sub (by repeat (first | exact Sub.refl _ | assumption | refine Sub.new (by assumption) ?_ _ _ | refine Sub.kill_new (by assumption) ?_ _ _ | refine Sub.trans ?_ (by assumption))) hr)) ?_ | rw [hk] | refine ACallK.eq (l1In_ok _ _ _ _ _) ?_ | refine retK_back (by assumption) ?_ | fail)
    all_goals first
      | (exfalso; omega)
      | (simp_all [sampled]; done)
      | (simp_all [sampled]; omega)
      | (exfalso; apply hp; simp_all [rowOk]; omega)
      | (exfalso; rename_i x; have := x; apply hp; simp_all [rowOk]; omega)
      | (exfalso; apply hp; simp_all [rowOk]; done)
  · repeat' (first | simp -implicitDefEqProofs only [go_sem] | refine acond_dec (fun _ => ?_) (fun _ => ?_) | refine acond_ndec (fun _ => ?_) (fun _ => ?_) | refine agrd_ndecf (fun _ => ?_) (fun _ => ?_) | simp -implicitDefEqProofs (disch := omega) only [wrap_in, u8_small, Int.tmod_eq_emod_of_nonneg, Int.tdiv_eq_ediv_of_nonneg] | refine ACallK.eq (RowOk_spec _ _ r _ (Ob.sub (by repeat (first | exact Sub.refl _ | assumption | refine Sub.new (by assumption) ?_ _ _ | refine Sub.kill_new (by assumption) ?_ _ _ | refine Sub.trans ?_ (by assumption))) hr)) ?_ | refine ACallK.eq (l1In_ok _ _ _ _ _) ?_ | refine retK_back (by assumption) ?_ | fail)
    all_goals (try rw [show sampled r v = r from if_neg hp])
    all_goals first
      | rfl
      | (exfalso; omega)
      | (simp_all [sampled]; done)
      | (simp_all [sampled]; omega)
      | (exfalso; apply hp; simp_all [rowOk]; omega)
      | (exfalso; rename_i x; have := x; apply hp; simp_all [rowOk]; omega)
      | (exfalso; apply hp; simp_all [rowOk]; done)
theorem Sampled_impl (W0 : World) (cs : List AV) (r : RowD) (v : Int) (H : AH) (hr : Ob.rep W0 H cs r) : ACalls Tryz.prog W0 205 [.agg cs, .v (.int .i64 v)] H (fun u H' => u = .agg (rowCells (sampled r v)) ∧ H' = H) := by
  refine acallw Tryz.func205 rfl (by kernel_rfl) (by kernel_rfl) fun hc hw => ?_
  have hr' := hr
  obtain ⟨rfl, hb⟩ := hr'
  by_cases hp : rowP r ∧ r.kind = 3 ∧ 0 ≤ v ∧ v ≤ 65535
  · have hk : rowOk r = true := decide_eq_true hp.1
    have hbd := timer_bd hp.1 hp.2.1
    repeat' (first | simp -implicitDefEqProofs only [go_sem] | refine acond_dec (fun _ => ?_) (fun _ => ?_) | refine acond_ndec (fun _ => ?_) (fun _ => ?_) | refine agrd_ndecf (fun _ => ?_) (fun _ => ?_) | simp -implicitDefEqProofs (disch := omega) only [wrap_in, u8_small, Int.tmod_eq_emod_of_nonneg, Int.tdiv_eq_ediv_of_nonneg] | refine ACallK.eq (RowOk_impl _ _ r _ (Ob.sub (by repeat (first | exact Sub.refl _ | assumption | refine Sub.new (by assumption) ?_ _ _ | refine Sub.kill_new (by assumption) ?_ _ _ | refine Sub.trans ?_ (by assumption))) hr)) ?_ | rw [hk] | refine ACallK.eq (within_ok _ _ _ _ _) ?_ | refine retK_back (by assumption) ?_ | fail)
    all_goals first
      | (exfalso; omega)
      | (simp_all [sampled]; done)
      | (simp_all [sampled]; omega)
      | (exfalso; apply hp; simp_all [rowOk]; omega)
      | (exfalso; rename_i x; have := x; apply hp; simp_all [rowOk]; omega)
      | (exfalso; apply hp; simp_all [rowOk]; done)
  · repeat' (first | simp -implicitDefEqProofs only [go_sem] | refine acond_dec (fun _ => ?_) (fun _ => ?_) | refine acond_ndec (fun _ => ?_) (fun _ => ?_) | refine agrd_ndecf (fun _ => ?_) (fun _ => ?_) | simp -implicitDefEqProofs (disch := omega) only [wrap_in, u8_small, Int.tmod_eq_emod_of_nonneg, Int.tdiv_eq_ediv_of_nonneg] | refine ACallK.eq (RowOk_impl _ _ r _ (Ob.sub (by repeat (first | exact Sub.refl _ | assumption | refine Sub.new (by assumption) ?_ _ _ | refine Sub.kill_new (by assumption) ?_ _ _ | refine Sub.trans ?_ (by assumption))) hr)) ?_ | refine ACallK.eq (within_ok _ _ _ _ _) ?_ | refine retK_back (by assumption) ?_ | fail)
    all_goals (try rw [show sampled r v = r from if_neg hp])
    all_goals first
      | rfl
      | (exfalso; omega)
      | (simp_all [sampled]; done)
      | (simp_all [sampled]; omega)
      | (exfalso; apply hp; simp_all [rowOk]; omega)
      | (exfalso; rename_i x; have := x; apply hp; simp_all [rowOk]; omega)
      | (exfalso; apply hp; simp_all [rowOk]; done)
theorem sampled_B {r : RowD} (h : rowB r) (v : Int) : rowB (sampled r v) := by
  unfold sampled
  split
  · rename_i hp
    have hb := timer_bd hp.1 hp.2.1
    obtain ⟨h1, h2, h3, h4, h5, h6, h7, h8, h9⟩ := h
    split
    · refine ⟨h1, h2, h3, h4, h5, h6, h7, h8, ?_⟩
      simp only [inI64]; split <;> omega
    · refine ⟨h1, h2, h3, h4, ?_, ?_, ?_, ?_, h9⟩ <;> simp only [inI64] <;> (try split) <;> (try split) <;> omega
  · exact h
end Go.Proofs.YtipfnhfcoolhaaaGreat.Aw
end
