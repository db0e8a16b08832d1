/- The program's functions that compare models, look rows up, and check jobs and what is to do. -/
import Derived.Test.YthcjolappblieaaFb
namespace Go.Proofs.Ythcjolappblieaa.Aw
open Go Go.RowKit
set_option linter.unusedVariables false
set_option linter.unusedSimpArgs false
set_option maxRecDepth 100000
set_option maxHeartbeats 1000000
theorem eqAt_KRow (x y : KRowD) : EqAt Try.prog 111 [.string x.key, .int .i64 x.kind] [.string y.key, .int .i64 y.kind] (decide (x = y)) := by
  refine eqAt_of (r := decide (x = y)) (by kernel_rfl) (Eq.trans (by kernel_rfl : _ = some ((x.key.toList == y.key.toList) && ((x.kind == y.kind) && true))) ?_)
  simp [bytes_eq_iff, KRowD.ext_iff', ← decide_eq_decide]
  rfl
theorem eqAt_Row (x y : RowD) : EqAt Try.prog 51 [.string x.key, .int .i64 x.kind, .int .i64 x.sum, .bool x.set, .int .i64 x.last, .int .i64 x.n, .int .i64 x.mn, .int .i64 x.mx, .int .i64 x.total, .int .i64 x.dropped] [.string y.key, .int .i64 y.kind, .int .i64 y.sum, .bool y.set, .int .i64 y.last, .int .i64 y.n, .int .i64 y.mn, .int .i64 y.mx, .int .i64 y.total, .int .i64 y.dropped] (decide (x = y)) := by
  refine eqAt_of (r := decide (x = y)) (by kernel_rfl) (Eq.trans (by kernel_rfl : _ = some ((x.key.toList == y.key.toList) && ((x.kind == y.kind) && ((x.sum == y.sum) && ((x.set == y.set) && ((x.last == y.last) && ((x.n == y.n) && ((x.mn == y.mn) && ((x.mx == y.mx) && ((x.total == y.total) && ((x.dropped == y.dropped) && true))))))))))) ?_)
  simp [bytes_eq_iff, RowD.ext_iff']
  rfl
section
variable {α : Type}
def EqTo (xs ys : List α) (i : Nat) : Prop := xs.take i = ys.take i
theorem EqTo.zero (xs ys : List α) : EqTo xs ys 0 := by simp [EqTo]
theorem EqTo.succ {xs ys : List α} {i : Nat} (h : EqTo xs ys i) (h1 : i < xs.length) (h2 : i < ys.length) (he : xs[i] = ys[i]) : EqTo xs ys (i + 1) := by
  unfold EqTo at *
  rw [List.take_succ_eq_append_getElem h1, List.take_succ_eq_append_getElem h2, h, he]
theorem EqTo.done {xs ys : List α} {i : Nat} (h : EqTo xs ys i) (h1 : xs.length ≤ i) (h2 : ys.length ≤ i) : xs = ys := by
  unfold EqTo at h
  rwa [List.take_of_length_le h1, List.take_of_length_le h2] at h
theorem ne_at {xs ys : List α} {i : Nat} (h1 : i < xs.length) (h2 : i < ys.length) (hn : ¬ xs[i] = ys[i]) : ¬ xs = ys := by rintro rfl; exact hn rfl
theorem ne_len {xs ys : List α} (hn : ¬ (xs.length : Int) = ys.length) : ¬ xs = ys := by rintro rfl; exact hn rfl
end
theorem SameReport_ok (W0 : World) (a b : AV) (xs ys : List RowD) (H : AH) (ha : SlR W0 H a xs) (hb : SlR W0 H b ys) : ACalls Try.prog W0 149 [a, b] H (fun v H' => v = .v (.bool (decide (xs = ys))) ∧ H' = H) := by
  refine acallw Try.func149 rfl (by kernel_rfl) (by kernel_rfl) fun hc hw => ?_
  have h1 := ha.2.1; simp only [big] at h1
  have h2 := hb.2.1; simp only [big] at h2
  repeat' (first | simp -implicitDefEqProofs only [go_sem] | refine acond_dec (fun _ => ?_) (fun _ => ?_) | refine acond_ndec (fun _ => ?_) (fun _ => ?_) | refine agrd_dec (fun _ => ?_) (fun _ => ?_) | refine agrd_decf (fun _ => ?_) (fun _ => ?_) | refine agrd_ndec (fun _ => ?_) (fun _ => ?_) | refine agrd_ndecf (fun _ => ?_) (fun _ => ?_) | refine abi_len_sl' (by assumption) ?_ | refine aixs_sln (by assumption) ?_ | refine afa_sl (by assumption) ?_ | (refine aK_sl (by assumption) (by omega) ?_; first | rintro _ ⟨rfl, _⟩ | (intro _ hx; obtain ⟨_, rfl, _, _⟩ := EvD.out hx) | (intro _ hx; obtain ⟨_, _, rfl, _, _, _⟩ := JobD.out hx) | rintro _ ⟨_, rfl, _⟩) | rw [SlR.one (by assumption)] | rw [SlR.leaf (by assumption)] | simp -implicitDefEqProofs (disch := omega) only [wrap_in, u8_small, Int.tmod_eq_emod_of_nonneg, Int.tdiv_eq_ediv_of_nonneg] | refine aK_sub (by assumption) ?_ | refine aix_strn (fun _ _ => ?_) | ((with_reducible refine adraw_seq ?_ ?_ ?_); (· kernel_rfl); (· decide +kernel)) | simp -implicitDefEqProofs only [go_sem, slCells_own, aapp_own] | refine And.intro (by omega) (And.intro (by omega) ?_) | refine acond_split (fun _ => ?_) (fun _ => ?_) | refine agrd_bt (fun _ => ?_) (fun _ => ?_) | refine agrd_bf (fun _ => ?_) (fun _ => ?_) | refine retK_eq ?_ | refine retK_back (by assumption) ?_ | refine retK_eq2 ?_ | refine retK_back2 (by assumption) ?_)
  · rw [decide_eq_false (ne_len (by assumption))]
  · rename_i hl
    refine acode_while (fun i : Nat => [(0, a), (1, b), (5, .v (.int .i64 i))]) (fun i H' => H' = H ∧ i ≤ xs.length ∧ EqTo xs ys i) (fun i => xs.length - i) 0 ⟨rfl, by omega, EqTo.zero _ _⟩ ?_
    rintro i _ ⟨rfl, hi, hP⟩
    repeat' (first | simp -implicitDefEqProofs only [go_sem] | refine acond_dec (fun _ => ?_) (fun _ => ?_) | refine acond_ndec (fun _ => ?_) (fun _ => ?_) | refine agrd_dec (fun _ => ?_) (fun _ => ?_) | refine agrd_decf (fun _ => ?_) (fun _ => ?_) | refine agrd_ndec (fun _ => ?_) (fun _ => ?_) | refine agrd_ndecf (fun _ => ?_) (fun _ => ?_) | refine abi_len_sl' (by assumption) ?_ | refine aixs_sln (by assumption) ?_ | refine afa_sl (by assumption) ?_ | (refine aK_sl (by assumption) (by omega) ?_; first | rintro _ ⟨rfl, _⟩ | (intro _ hx; obtain ⟨_, rfl, _, _⟩ := EvD.out hx) | (intro _ hx; obtain ⟨_, _, rfl, _, _, _⟩ := JobD.out hx) | rintro _ ⟨_, rfl, _⟩) | rw [SlR.one (by assumption)] | rw [SlR.leaf (by assumption)] | simp -implicitDefEqProofs (disch := omega) only [wrap_in, u8_small, Int.tmod_eq_emod_of_nonneg, Int.tdiv_eq_ediv_of_nonneg] | refine aK_sub (by assumption) ?_ | refine aix_strn (fun _ _ => ?_) | ((with_reducible refine adraw_seq ?_ ?_ ?_); (· kernel_rfl); (· decide +kernel)) | (refine agg_ne (eqAt_Row xs[i] ys[i]) ?_) | simp -implicitDefEqProofs only [go_sem, slCells_own, aapp_own] | refine And.intro (by omega) (And.intro (by omega) ?_) | refine acond_split (fun _ => ?_) (fun _ => ?_) | refine agrd_bt (fun _ => ?_) (fun _ => ?_) | refine agrd_bf (fun _ => ?_) (fun _ => ?_) | refine retK_eq ?_ | refine retK_back (by assumption) ?_ | refine retK_eq2 ?_ | refine retK_back2 (by assumption) ?_)
    · rw [decide_eq_false (ne_at (i := i) (by omega) (by omega) (by assumption))]
    · exact back (i + 1) ⟨by omega, hP.succ (by omega) (by omega) (by assumption)⟩
    · rw [decide_eq_true (hP.done (by omega) (by omega))]
theorem EqualRow_ok (W0 : World) (a b : AV) (xs ys : List RowD) (H : AH) (ha : SlR W0 H a xs) (hb : SlR W0 H b ys) : ACalls Try.prog W0 153 [a, b] H (fun v H' => v = .v (.bool (decide (xs = ys))) ∧ H' = H) := by
  refine acallw Try.func153 rfl (by kernel_rfl) (by kernel_rfl) fun hc hw => ?_
  have h1 := ha.2.1; simp only [big] at h1
  have h2 := hb.2.1; simp only [big] at h2
  repeat' (first | simp -implicitDefEqProofs only [go_sem] | refine acond_dec (fun _ => ?_) (fun _ => ?_) | refine acond_ndec (fun _ => ?_) (fun _ => ?_) | refine agrd_dec (fun _ => ?_) (fun _ => ?_) | refine agrd_decf (fun _ => ?_) (fun _ => ?_) | refine agrd_ndec (fun _ => ?_) (fun _ => ?_) | refine agrd_ndecf (fun _ => ?_) (fun _ => ?_) | refine abi_len_sl' (by assumption) ?_ | refine aixs_sln (by assumption) ?_ | refine afa_sl (by assumption) ?_ | (refine aK_sl (by assumption) (by omega) ?_; first | rintro _ ⟨rfl, _⟩ | (intro _ hx; obtain ⟨_, rfl, _, _⟩ := EvD.out hx) | (intro _ hx; obtain ⟨_, _, rfl, _, _, _⟩ := JobD.out hx) | rintro _ ⟨_, rfl, _⟩) | rw [SlR.one (by assumption)] | rw [SlR.leaf (by assumption)] | simp -implicitDefEqProofs (disch := omega) only [wrap_in, u8_small, Int.tmod_eq_emod_of_nonneg, Int.tdiv_eq_ediv_of_nonneg] | refine aK_sub (by assumption) ?_ | refine aix_strn (fun _ _ => ?_) | ((with_reducible refine adraw_seq ?_ ?_ ?_); (· kernel_rfl); (· decide +kernel)) | simp -implicitDefEqProofs only [go_sem, slCells_own, aapp_own] | refine And.intro (by omega) (And.intro (by omega) ?_) | refine acond_split (fun _ => ?_) (fun _ => ?_) | refine agrd_bt (fun _ => ?_) (fun _ => ?_) | refine agrd_bf (fun _ => ?_) (fun _ => ?_) | refine retK_eq ?_ | refine retK_back (by assumption) ?_ | refine retK_eq2 ?_ | refine retK_back2 (by assumption) ?_)
  · rw [decide_eq_false (ne_len (by assumption))]
  · rename_i hl
    refine acode_while (fun i : Nat => [(0, a), (1, b), (12, .v (.int .i64 xs.length)), (13, .v (.int .i64 i))]) (fun i H' => H' = H ∧ i ≤ xs.length ∧ EqTo xs ys i) (fun i => xs.length - i) 0 ⟨rfl, by omega, EqTo.zero _ _⟩ ?_
    rintro i _ ⟨rfl, hi, hP⟩
    repeat' (first | simp -implicitDefEqProofs only [go_sem] | refine acond_dec (fun _ => ?_) (fun _ => ?_) | refine acond_ndec (fun _ => ?_) (fun _ => ?_) | refine agrd_dec (fun _ => ?_) (fun _ => ?_) | refine agrd_decf (fun _ => ?_) (fun _ => ?_) | refine agrd_ndec (fun _ => ?_) (fun _ => ?_) | refine agrd_ndecf (fun _ => ?_) (fun _ => ?_) | refine abi_len_sl' (by assumption) ?_ | refine aixs_sln (by assumption) ?_ | refine afa_sl (by assumption) ?_ | (refine aK_sl (by assumption) (by omega) ?_; first | rintro _ ⟨rfl, _⟩ | (intro _ hx; obtain ⟨_, rfl, _, _⟩ := EvD.out hx) | (intro _ hx; obtain ⟨_, _, rfl, _, _, _⟩ := JobD.out hx) | rintro _ ⟨_, rfl, _⟩) | rw [SlR.one (by assumption)] | rw [SlR.leaf (by assumption)] | simp -implicitDefEqProofs (disch := omega) only [wrap_in, u8_small, Int.tmod_eq_emod_of_nonneg, Int.tdiv_eq_ediv_of_nonneg] | refine aK_sub (by assumption) ?_ | refine aix_strn (fun _ _ => ?_) | ((with_reducible refine adraw_seq ?_ ?_ ?_); (· kernel_rfl); (· decide +kernel)) | (refine agg_ne (eqAt_Row xs[i] ys[i]) ?_) | simp -implicitDefEqProofs only [go_sem, slCells_own, aapp_own] | refine And.intro (by omega) (And.intro (by omega) ?_) | refine acond_split (fun _ => ?_) (fun _ => ?_) | refine agrd_bt (fun _ => ?_) (fun _ => ?_) | refine agrd_bf (fun _ => ?_) (fun _ => ?_) | refine retK_eq ?_ | refine retK_back (by assumption) ?_ | refine retK_eq2 ?_ | refine retK_back2 (by assumption) ?_)
    · rw [decide_eq_false (ne_at (i := i) (by omega) (by omega) (by assumption))]
    · exact back (i + 1) ⟨by omega, hP.succ (by omega) (by omega) (by assumption)⟩
    · rw [decide_eq_true (hP.done (by omega) (by omega))]
def rowCells (r : RowD) : List AV := [.v (.string r.key), .v (.int .i64 r.kind), .v (.int .i64 r.sum), .v (.bool r.set), .v (.int .i64 r.last), .v (.int .i64 r.n), .v (.int .i64 r.mn), .v (.int .i64 r.mx), .v (.int .i64 r.total), .v (.int .i64 r.dropped)]
@[go_sem] theorem rowCells_row0 : rowCells row0 = [.v (.string ⟨#[]⟩), .v (.int .i64 0), .v (.int .i64 0), .v (.bool false), .v (.int .i64 0), .v (.int .i64 0), .v (.int .i64 0), .v (.int .i64 0), .v (.int .i64 0), .v (.int .i64 0)] := rfl
theorem queueOk_long {t : Nat} {q : QueueD} (h : 10 < (q.ops.length : Int)) : queueOk t q = false := by
  unfold queueOk; rw [decide_eq_false (by omega)]; rfl
theorem queueOk_bad {t : Nat} {q : QueueD} {i : Nat} (h : i < q.ops.length) (hp : (opOk q.ops[i] && (decide (q.ops[i].kind = 3) == decide ((t : Int) = 3))) = false) : queueOk t q = false := by
  unfold queueOk; rw [all_fail h hp, Bool.and_false]
theorem queueOk_good {t : Nat} {q : QueueD} {i : Nat} (h : (q.ops.length : Int) ≤ 10) (hp : AllTo (fun o => opOk o && (decide (o.kind = 3) == decide ((t : Int) = 3))) q.ops i) (hi : q.ops.length ≤ i) : queueOk t q = true := by
  unfold queueOk; rw [all_done hp hi, decide_eq_true h]; rfl
theorem todoOk_bad {l : List QueueD} {t : Nat} (h : t < l.length) (hq : queueOk t l[t] = false) : todoOk l = false := by
  unfold todoOk
  rw [Bool.and_eq_false_iff]; right
  rw [List.all_eq_false]
  exact ⟨t, by simpa using h, by simp [queueAt, List.getElem?_eq_getElem h, hq]⟩
theorem todoOk_good {l : List QueueD} {t : Nat} (hq : ∀ i (h : i < l.length), i < t → queueOk i l[i] = true) (ht : l.length ≤ t) : todoOk l = decide ((l.length : Int) = 4) := by
  unfold todoOk
  rw [show (List.range l.length).all (queueAt l) = true by
    rw [List.all_eq_true]
    intro i hi
    have hi : i < l.length := by simpa using hi
    simp [queueAt, List.getElem?_eq_getElem hi, hq i hi (by omega)]]
  rw [Bool.and_true]
theorem todoOk_len {l : List QueueD} (h : ¬ (l.length : Int) = 4) : todoOk l = false := by
  unfold todoOk; rw [decide_eq_false h]; rfl
theorem TodoOk_spec (W0 : World) (a : AV) (l : List QueueD) (H : AH) (ha : SlR W0 H a l) : ACalls Try.prog W0 111 [a] H (fun v H' => v = .v (.bool (todoOk l)) ∧ H' = H) := by
  refine acallw Try.func111 rfl (by kernel_rfl) (by kernel_rfl) fun hc hw => ?_
  have hb := ha.2.1; simp only [big] at hb
  repeat' (first | simp -implicitDefEqProofs only [go_sem] | refine acond_dec (fun _ => ?_) (fun _ => ?_) | refine acond_ndec (fun _ => ?_) (fun _ => ?_) | refine agrd_dec (fun _ => ?_) (fun _ => ?_) | refine agrd_decf (fun _ => ?_) (fun _ => ?_) | refine agrd_ndec (fun _ => ?_) (fun _ => ?_) | refine agrd_ndecf (fun _ => ?_) (fun _ => ?_) | refine abi_len_sl' (by assumption) ?_ | refine aixs_sln (by assumption) ?_ | refine afa_sl (by assumption) ?_ | (refine aK_sl (by assumption) (by omega) ?_; first | rintro _ ⟨rfl, _⟩ | (intro _ hx; obtain ⟨_, rfl, _, _⟩ := EvD.out hx) | (intro _ hx; obtain ⟨_, _, rfl, _, _, _⟩ := JobD.out hx) | rintro _ ⟨_, rfl, _⟩) | rw [SlR.one (by assumption)] | rw [SlR.leaf (by assumption)] | simp -implicitDefEqProofs (disch := omega) only [wrap_in, u8_small, Int.tmod_eq_emod_of_nonneg, Int.tdiv_eq_ediv_of_nonneg] | refine aK_sub (by assumption) ?_ | refine aix_strn (fun _ _ => ?_) | ((with_reducible refine adraw_seq ?_ ?_ ?_); (· kernel_rfl); (· decide +kernel)) | simp -implicitDefEqProofs only [go_sem, slCells_own, aapp_own] | refine And.intro (by omega) (And.intro (by omega) ?_) | refine acond_split (fun _ => ?_) (fun _ => ?_) | refine agrd_bt (fun _ => ?_) (fun _ => ?_) | refine agrd_bf (fun _ => ?_) (fun _ => ?_) | refine retK_eq ?_ | refine retK_back (by assumption) ?_ | refine retK_eq2 ?_ | refine retK_back2 (by assumption) ?_)
  refine acode_while (fun t : Nat => [(0, a), (3, .v (.int .i64 t))]) (fun t H' => Sub H H' ∧ t ≤ l.length ∧ ∀ i (h : i < l.length), i < t → queueOk i l[i] = true) (fun t => l.length - t) 0 ⟨by repeat (first | exact Sub.refl _ | assumption | refine Sub.new (by assumption) ?_ _ _ | refine Sub.kill_new (by assumption) ?_ _ _ | refine Sub.trans ?_ (by assumption)), by omega, by omega⟩ ?_
  rintro t H' ⟨hs, ht, hP⟩
  repeat' (first | simp -implicitDefEqProofs only [go_sem] | refine acond_dec (fun _ => ?_) (fun _ => ?_) | refine acond_ndec (fun _ => ?_) (fun _ => ?_) | refine agrd_dec (fun _ => ?_) (fun _ => ?_) | refine agrd_decf (fun _ => ?_) (fun _ => ?_) | refine agrd_ndec (fun _ => ?_) (fun _ => ?_) | refine agrd_ndecf (fun _ => ?_) (fun _ => ?_) | refine abi_len_sl' (by assumption) ?_ | refine aixs_sln (by assumption) ?_ | refine afa_sl (by assumption) ?_ | (refine aK_sl (by assumption) (by omega) ?_; first | rintro _ ⟨rfl, _⟩ | (intro _ hx; obtain ⟨_, rfl, _, _⟩ := EvD.out hx) | (intro _ hx; obtain ⟨_, _, rfl, _, _, _⟩ := JobD.out hx) | rintro _ ⟨_, rfl, _⟩) | rw [SlR.one (by assumption)] | rw [SlR.leaf (by assumption)] | simp -implicitDefEqProofs (disch := omega) only [wrap_in, u8_small, Int.tmod_eq_emod_of_nonneg, Int.tdiv_eq_ediv_of_nonneg] | refine aK_sub (by assumption) ?_ | refine aix_strn (fun _ _ => ?_) | ((with_reducible refine adraw_seq ?_ ?_ ?_); (· kernel_rfl); (· decide +kernel)) | simp -implicitDefEqProofs only [go_sem, slCells_own, aapp_own] | refine And.intro (by omega) (And.intro (by omega) ?_) | refine acond_split (fun _ => ?_) (fun _ => ?_) | refine agrd_bt (fun _ => ?_) (fun _ => ?_) | refine agrd_bf (fun _ => ?_) (fun _ => ?_) | refine retK_eq ?_ | refine retK_back (by assumption) ?_ | refine retK_eq2 ?_ | refine retK_back2 (by assumption) ?_)
  · rw [todoOk_bad (t := t) (by omega) (queueOk_long (by assumption))]
  · rename_i hl
    refine acode_while (fun i : Nat => [(0, a), (3, .v (.int .i64 t)), (4, .v (.int .i64 i))]) (fun i H' => Sub H H' ∧ i ≤ l[t].ops.length ∧ AllTo (fun o => opOk o && (decide (o.kind = 3) == decide ((t : Int) = 3))) l[t].ops i) (fun i => l[t].ops.length - i) 0 ⟨by repeat (first | exact Sub.refl _ | assumption | refine Sub.new (by assumption) ?_ _ _ | refine Sub.kill_new (by assumption) ?_ _ _ | refine Sub.trans ?_ (by assumption)), by omega, AllTo.zero _ _⟩ ?_
    rintro i H2 ⟨hs2, hi, hQ⟩
    repeat' (first | simp -implicitDefEqProofs only [go_sem] | refine acond_dec (fun _ => ?_) (fun _ => ?_) | refine acond_ndec (fun _ => ?_) (fun _ => ?_) | refine agrd_dec (fun _ => ?_) (fun _ => ?_) | refine agrd_decf (fun _ => ?_) (fun _ => ?_) | refine agrd_ndec (fun _ => ?_) (fun _ => ?_) | refine agrd_ndecf (fun _ => ?_) (fun _ => ?_) | refine abi_len_sl' (by assumption) ?_ | refine aixs_sln (by assumption) ?_ | refine afa_sl (by assumption) ?_ | (refine aK_sl (by assumption) (by omega) ?_; first | rintro _ ⟨rfl, _⟩ | (intro _ hx; obtain ⟨_, rfl, _, _⟩ := EvD.out hx) | (intro _ hx; obtain ⟨_, _, rfl, _, _, _⟩ := JobD.out hx) | rintro _ ⟨_, rfl, _⟩) | rw [SlR.one (by assumption)] | rw [SlR.leaf (by assumption)] | simp -implicitDefEqProofs (disch := omega) only [wrap_in, u8_small, Int.tmod_eq_emod_of_nonneg, Int.tdiv_eq_ediv_of_nonneg] | refine aK_sub (by assumption) ?_ | refine aix_strn (fun _ _ => ?_) | ((with_reducible refine adraw_seq ?_ ?_ ?_); (· kernel_rfl); (· decide +kernel)) | refine ACallK.eq (OpOk_spec _ _ l[t].ops[i] _ ⟨rfl, by assumption⟩) ?_ | simp -implicitDefEqProofs only [go_sem, slCells_own, aapp_own] | refine And.intro (by omega) (And.intro (by omega) ?_) | refine acond_split (fun _ => ?_) (fun _ => ?_) | refine agrd_bt (fun _ => ?_) (fun _ => ?_) | refine agrd_bf (fun _ => ?_) (fun _ => ?_) | refine retK_eq ?_ | refine retK_back (by assumption) ?_ | refine retK_eq2 ?_ | refine retK_back2 (by assumption) ?_)
    · have hq : queueOk t l[t] = false := queueOk_bad (i := i) (by omega) (by simp_all)
      rw [todoOk_bad (t := t) (by omega) hq]
    · refine back (i + 1) ⟨by repeat (first | exact Sub.refl _ | assumption | refine Sub.new (by assumption) ?_ _ _ | refine Sub.kill_new (by assumption) ?_ _ _ | refine Sub.trans ?_ (by assumption)), by omega, hQ.succ (by omega) ?_⟩
      simp_all
    · have hq : queueOk t l[t] = false := queueOk_bad (i := i) (by omega) (by simp_all)
      rw [todoOk_bad (t := t) (by omega) hq]
    · refine back (t + 1) ⟨by assumption, by omega, fun j hj hjt => ?_⟩
      rcases Nat.lt_succ_iff_lt_or_eq.1 hjt with h | rfl
      · exact hP j hj h
      · exact queueOk_good (by omega) hQ (by omega)
  · rw [todoOk_good hP (by omega)]
theorem TodoOk_impl (W0 : World) (a : AV) (l : List QueueD) (H : AH) (ha : SlR W0 H a l) : ACalls Try.prog W0 115 [a] H (fun v H' => v = .v (.bool (todoOk l)) ∧ H' = H) := by
  refine acallw Try.func115 rfl (by kernel_rfl) (by kernel_rfl) fun hc hw => ?_
  have hb := ha.2.1; simp only [big] at hb
  repeat' (first | simp -implicitDefEqProofs only [go_sem] | refine acond_dec (fun _ => ?_) (fun _ => ?_) | refine acond_ndec (fun _ => ?_) (fun _ => ?_) | refine agrd_dec (fun _ => ?_) (fun _ => ?_) | refine agrd_decf (fun _ => ?_) (fun _ => ?_) | refine agrd_ndec (fun _ => ?_) (fun _ => ?_) | refine agrd_ndecf (fun _ => ?_) (fun _ => ?_) | refine abi_len_sl' (by assumption) ?_ | refine aixs_sln (by assumption) ?_ | refine afa_sl (by assumption) ?_ | (refine aK_sl (by assumption) (by omega) ?_; first | rintro _ ⟨rfl, _⟩ | (intro _ hx; obtain ⟨_, rfl, _, _⟩ := EvD.out hx) | (intro _ hx; obtain ⟨_, _, rfl, _, _, _⟩ := JobD.out hx) | rintro _ ⟨_, rfl, _⟩) | rw [SlR.one (by assumption)] | rw [SlR.leaf (by assumption)] | simp -implicitDefEqProofs (disch := omega) only [wrap_in, u8_small, Int.tmod_eq_emod_of_nonneg, Int.tdiv_eq_ediv_of_nonneg] | refine aK_sub (by assumption) ?_ | refine aix_strn (fun _ _ => ?_) | ((with_reducible refine adraw_seq ?_ ?_ ?_); (· kernel_rfl); (· decide +kernel)) | simp -implicitDefEqProofs only [go_sem, slCells_own, aapp_own] | refine And.intro (by omega) (And.intro (by omega) ?_) | refine acond_split (fun _ => ?_) (fun _ => ?_) | refine agrd_bt (fun _ => ?_) (fun _ => ?_) | refine agrd_bf (fun _ => ?_) (fun _ => ?_) | refine retK_eq ?_ | refine retK_back (by assumption) ?_ | refine retK_eq2 ?_ | refine retK_back2 (by assumption) ?_)
  · rw [todoOk_len (by assumption)]
  rename_i hl4
  refine acode_while (fun t : Nat => [(10, a), (11, .v (.int .i64 l.length)), (12, .v (.int .i64 t))]) (fun t H' => Sub H H' ∧ t ≤ l.length ∧ ∀ i (h : i < l.length), i < t → queueOk i l[i] = true) (fun t => l.length - t) 0 ⟨by repeat (first | exact Sub.refl _ | assumption | refine Sub.new (by assumption) ?_ _ _ | refine Sub.kill_new (by assumption) ?_ _ _ | refine Sub.trans ?_ (by assumption)), by omega, by omega⟩ ?_
  rintro t H' ⟨hs, ht, hP⟩
  repeat' (first | simp -implicitDefEqProofs only [go_sem] | refine acond_dec (fun _ => ?_) (fun _ => ?_) | refine acond_ndec (fun _ => ?_) (fun _ => ?_) | refine agrd_dec (fun _ => ?_) (fun _ => ?_) | refine agrd_decf (fun _ => ?_) (fun _ => ?_) | refine agrd_ndec (fun _ => ?_) (fun _ => ?_) | refine agrd_ndecf (fun _ => ?_) (fun _ => ?_) | refine abi_len_sl' (by assumption) ?_ | refine aixs_sln (by assumption) ?_ | refine afa_sl (by assumption) ?_ | (refine aK_sl (by assumption) (by omega) ?_; first | rintro _ ⟨rfl, _⟩ | (intro _ hx; obtain ⟨_, rfl, _, _⟩ := EvD.out hx) | (intro _ hx; obtain ⟨_, _, rfl, _, _, _⟩ := JobD.out hx) | rintro _ ⟨_, rfl, _⟩) | rw [SlR.one (by assumption)] | rw [SlR.leaf (by assumption)] | simp -implicitDefEqProofs (disch := omega) only [wrap_in, u8_small, Int.tmod_eq_emod_of_nonneg, Int.tdiv_eq_ediv_of_nonneg] | refine aK_sub (by assumption) ?_ | refine aix_strn (fun _ _ => ?_) | ((with_reducible refine adraw_seq ?_ ?_ ?_); (· kernel_rfl); (· decide +kernel)) | simp -implicitDefEqProofs only [go_sem, slCells_own, aapp_own] | refine And.intro (by omega) (And.intro (by omega) ?_) | refine acond_split (fun _ => ?_) (fun _ => ?_) | refine agrd_bt (fun _ => ?_) (fun _ => ?_) | refine agrd_bf (fun _ => ?_) (fun _ => ?_) | refine retK_eq ?_ | refine retK_back (by assumption) ?_ | refine retK_eq2 ?_ | refine retK_back2 (by assumption) ?_)
  · rw [todoOk_bad (t := t) (by omega) (queueOk_long (by assumption))]
  · rename_i vo ho hl
    refine acode_while (fun i : Nat => [(3, .v (.int .i64 t)), (10, a), (11, .v (.int .i64 l.length)), (12, .v (.int .i64 t)), (22, vo), (23, .v (.int .i64 l[t].ops.length)), (24, .v (.int .i64 i))]) (fun i H' => Sub H H' ∧ i ≤ l[t].ops.length ∧ AllTo (fun o => opOk o && (decide (o.kind = 3) == decide ((t : Int) = 3))) l[t].ops i) (fun i => l[t].ops.length - i) 0 ⟨by repeat (first | exact Sub.refl _ | assumption | refine Sub.new (by assumption) ?_ _ _ | refine Sub.kill_new (by assumption) ?_ _ _ | refine Sub.trans ?_ (by assumption)), by omega, AllTo.zero _ _⟩ ?_
    rintro i H2 ⟨hs2, hi, hQ⟩
    repeat' (first | simp -implicitDefEqProofs only [go_sem] | refine acond_dec (fun _ => ?_) (fun _ => ?_) | refine acond_ndec (fun _ => ?_) (fun _ => ?_) | refine agrd_dec (fun _ => ?_) (fun _ => ?_) | refine agrd_decf (fun _ => ?_) (fun _ => ?_) | refine agrd_ndec (fun _ => ?_) (fun _ => ?_) | refine agrd_ndecf (fun _ => ?_) (fun _ => ?_) | refine abi_len_sl' (by assumption) ?_ | refine aixs_sln (by assumption) ?_ | refine afa_sl (by assumption) ?_ | (refine aK_sl (by assumption) (by omega) ?_; first | rintro _ ⟨rfl, _⟩ | (intro _ hx; obtain ⟨_, rfl, _, _⟩ := EvD.out hx) | (intro _ hx; obtain ⟨_, _, rfl, _, _, _⟩ := JobD.out hx) | rintro _ ⟨_, rfl, _⟩) | rw [SlR.one (by assumption)] | rw [SlR.leaf (by assumption)] | simp -implicitDefEqProofs (disch := omega) only [wrap_in, u8_small, Int.tmod_eq_emod_of_nonneg, Int.tdiv_eq_ediv_of_nonneg] | refine aK_sub (by assumption) ?_ | refine aix_strn (fun _ _ => ?_) | ((with_reducible refine adraw_seq ?_ ?_ ?_); (· kernel_rfl); (· decide +kernel)) | refine ACallK.eq (OpOk_impl _ _ l[t].ops[i] _ ⟨rfl, by assumption⟩) ?_ | simp -implicitDefEqProofs only [go_sem, slCells_own, aapp_own] | refine And.intro (by omega) (And.intro (by omega) ?_) | refine acond_split (fun _ => ?_) (fun _ => ?_) | refine agrd_bt (fun _ => ?_) (fun _ => ?_) | refine agrd_bf (fun _ => ?_) (fun _ => ?_) | refine retK_eq ?_ | refine retK_back (by assumption) ?_ | refine retK_eq2 ?_ | refine retK_back2 (by assumption) ?_)
    · have hq : queueOk t l[t] = false := queueOk_bad (i := i) (by omega) (by simp_all)
      rw [todoOk_bad (t := t) (by omega) hq]
    · refine back (i + 1) ⟨by repeat (first | exact Sub.refl _ | assumption | refine Sub.new (by assumption) ?_ _ _ | refine Sub.kill_new (by assumption) ?_ _ _ | refine Sub.trans ?_ (by assumption)), by omega, hQ.succ (by omega) ?_⟩
      simp_all
    · have hq : queueOk t l[t] = false := queueOk_bad (i := i) (by omega) (by simp_all)
      rw [todoOk_bad (t := t) (by omega) hq]
    · refine back (t + 1) ⟨by assumption, by omega, fun j hj hjt => ?_⟩
      rcases Nat.lt_succ_iff_lt_or_eq.1 hjt with h | rfl
      · exact hP j hj h
      · exact queueOk_good (by omega) hQ (by omega)
  · rw [todoOk_good hP (by omega), decide_eq_true hl4]
theorem l10Place_ok (W0 : World) (cs : List AV) (j : JobD) (H : AH) (hj : Ob.rep W0 H cs j) : ACalls Try.prog W0 178 [.agg cs] H (fun v H' => v = .v (.bool (decide (placeOk j.op.kind j.pc))) ∧ H' = H) := by
  refine acallw Try.func178 rfl (by kernel_rfl) (by kernel_rfl) fun hc hw => ?_
  obtain ⟨v, u, rfl, hv, hu, hj⟩ := JobD.out hj
  repeat' (first | simp -implicitDefEqProofs only [go_sem] | refine acond_dec (fun _ => ?_) (fun _ => ?_) | refine acond_ndec (fun _ => ?_) (fun _ => ?_) | refine agrd_dec (fun _ => ?_) (fun _ => ?_) | refine agrd_decf (fun _ => ?_) (fun _ => ?_) | refine agrd_ndec (fun _ => ?_) (fun _ => ?_) | refine agrd_ndecf (fun _ => ?_) (fun _ => ?_) | refine abi_len_sl' (by assumption) ?_ | refine aixs_sln (by assumption) ?_ | refine afa_sl (by assumption) ?_ | (refine aK_sl (by assumption) (by omega) ?_; first | rintro _ ⟨rfl, _⟩ | (intro _ hx; obtain ⟨_, rfl, _, _⟩ := EvD.out hx) | (intro _ hx; obtain ⟨_, _, rfl, _, _, _⟩ := JobD.out hx) | rintro _ ⟨_, rfl, _⟩) | rw [SlR.one (by assumption)] | rw [SlR.leaf (by assumption)] | simp -implicitDefEqProofs (disch := omega) only [wrap_in, u8_small, Int.tmod_eq_emod_of_nonneg, Int.tdiv_eq_ediv_of_nonneg] | refine aK_sub (by assumption) ?_ | refine aix_strn (fun _ _ => ?_) | ((with_reducible refine adraw_seq ?_ ?_ ?_); (· kernel_rfl); (· decide +kernel)) | refine ACallK.eq (l1In_ok _ _ _ _ _) ?_ | simp -implicitDefEqProofs only [go_sem, slCells_own, aapp_own] | refine And.intro (by omega) (And.intro (by omega) ?_) | refine acond_split (fun _ => ?_) (fun _ => ?_) | refine agrd_bt (fun _ => ?_) (fun _ => ?_) | refine agrd_bf (fun _ => ?_) (fun _ => ?_) | refine retK_eq ?_ | refine retK_back (by assumption) ?_ | refine retK_eq2 ?_ | refine retK_back2 (by assumption) ?_)
  all_goals (refine bv ?_; first | (simp_all [placeOk]; done) | (simp_all [placeOk]; omega))
theorem l10Count_ok (W0 : World) (cs : List AV) (j : JobD) (H : AH) (hj : Ob.rep W0 H cs j) : ACalls Try.prog W0 179 [.agg cs] H (fun v H' => v = .v (.bool (decide (countOk j))) ∧ H' = H) := by
  refine acallw Try.func179 rfl (by kernel_rfl) (by kernel_rfl) fun hc hw => ?_
  obtain ⟨v, u, rfl, hv, hu, hj⟩ := JobD.out hj
  repeat' (first | simp -implicitDefEqProofs only [go_sem] | refine acond_dec (fun _ => ?_) (fun _ => ?_) | refine acond_ndec (fun _ => ?_) (fun _ => ?_) | refine agrd_dec (fun _ => ?_) (fun _ => ?_) | refine agrd_decf (fun _ => ?_) (fun _ => ?_) | refine agrd_ndec (fun _ => ?_) (fun _ => ?_) | refine agrd_ndecf (fun _ => ?_) (fun _ => ?_) | refine abi_len_sl' (by assumption) ?_ | refine aixs_sln (by assumption) ?_ | refine afa_sl (by assumption) ?_ | (refine aK_sl (by assumption) (by omega) ?_; first | rintro _ ⟨rfl, _⟩ | (intro _ hx; obtain ⟨_, rfl, _, _⟩ := EvD.out hx) | (intro _ hx; obtain ⟨_, _, rfl, _, _, _⟩ := JobD.out hx) | rintro _ ⟨_, rfl, _⟩) | rw [SlR.one (by assumption)] | rw [SlR.leaf (by assumption)] | simp -implicitDefEqProofs (disch := omega) only [wrap_in, u8_small, Int.tmod_eq_emod_of_nonneg, Int.tdiv_eq_ediv_of_nonneg] | refine aK_sub (by assumption) ?_ | refine aix_strn (fun _ _ => ?_) | ((with_reducible refine adraw_seq ?_ ?_ ?_); (· kernel_rfl); (· decide +kernel)) | refine ACallK.eq (l1In_ok _ _ _ _ _) ?_ | simp -implicitDefEqProofs only [go_sem, slCells_own, aapp_own] | refine And.intro (by omega) (And.intro (by omega) ?_) | refine acond_split (fun _ => ?_) (fun _ => ?_) | refine agrd_bt (fun _ => ?_) (fun _ => ?_) | refine agrd_bf (fun _ => ?_) (fun _ => ?_) | refine retK_eq ?_ | refine retK_back (by assumption) ?_ | refine retK_eq2 ?_ | refine retK_back2 (by assumption) ?_)
  all_goals (refine bv ?_; first | (simp_all [countOk]; done) | (simp_all [countOk]; omega))
theorem pcOk_ok (W0 : World) (k p : Int) (H : AH) : ACalls Try.prog W0 181 [.v (.int .i64 k), .v (.int .i64 p)] H (fun v H' => v = .v (.bool (decide (p = 11 ∨ if k = 1 then p = 0 ∨ p = 1 else if k = 2 then p = 0 ∨ (2 ≤ p ∧ p ≤ 10) else 12 ≤ p ∧ p ≤ 15))) ∧ H' = H) := by
  refine acallw Try.func181 rfl (by kernel_rfl) (by kernel_rfl) fun hc hw => ?_
  repeat' (first | simp -implicitDefEqProofs only [go_sem] | refine acond_dec (fun _ => ?_) (fun _ => ?_) | refine acond_ndec (fun _ => ?_) (fun _ => ?_) | refine agrd_dec (fun _ => ?_) (fun _ => ?_) | refine agrd_decf (fun _ => ?_) (fun _ => ?_) | refine agrd_ndec (fun _ => ?_) (fun _ => ?_) | refine agrd_ndecf (fun _ => ?_) (fun _ => ?_) | refine abi_len_sl' (by assumption) ?_ | refine aixs_sln (by assumption) ?_ | refine afa_sl (by assumption) ?_ | (refine aK_sl (by assumption) (by omega) ?_; first | rintro _ ⟨rfl, _⟩ | (intro _ hx; obtain ⟨_, rfl, _, _⟩ := EvD.out hx) | (intro _ hx; obtain ⟨_, _, rfl, _, _, _⟩ := JobD.out hx) | rintro _ ⟨_, rfl, _⟩) | rw [SlR.one (by assumption)] | rw [SlR.leaf (by assumption)] | simp -implicitDefEqProofs (disch := omega) only [wrap_in, u8_small, Int.tmod_eq_emod_of_nonneg, Int.tdiv_eq_ediv_of_nonneg] | refine aK_sub (by assumption) ?_ | refine aix_strn (fun _ _ => ?_) | ((with_reducible refine adraw_seq ?_ ?_ ?_); (· kernel_rfl); (· decide +kernel)) | refine ACallK.eq (within_ok _ _ _ _ _) ?_ | simp -implicitDefEqProofs only [go_sem, slCells_own, aapp_own] | refine And.intro (by omega) (And.intro (by omega) ?_) | refine acond_split (fun _ => ?_) (fun _ => ?_) | refine agrd_bt (fun _ => ?_) (fun _ => ?_) | refine agrd_bf (fun _ => ?_) (fun _ => ?_) | refine retK_eq ?_ | refine retK_back (by assumption) ?_ | refine retK_eq2 ?_ | refine retK_back2 (by assumption) ?_)
  all_goals (refine bv ?_; first | (simp_all []; done) | (simp_all []; omega))
theorem isWord_ok (W0 : World) (n : Int) (H : AH) : ACalls Try.prog W0 173 [.v (.int .i64 n)] H (fun v H' => v = .v (.bool (decide (0 ≤ n ∧ n ≤ 281474976710655))) ∧ H' = H) := by
  refine acallw Try.func173 rfl (by kernel_rfl) (by kernel_rfl) fun hc hw => ?_
  repeat' (first | simp -implicitDefEqProofs only [go_sem] | refine acond_dec (fun _ => ?_) (fun _ => ?_) | refine acond_ndec (fun _ => ?_) (fun _ => ?_) | refine agrd_dec (fun _ => ?_) (fun _ => ?_) | refine agrd_decf (fun _ => ?_) (fun _ => ?_) | refine agrd_ndec (fun _ => ?_) (fun _ => ?_) | refine agrd_ndecf (fun _ => ?_) (fun _ => ?_) | refine abi_len_sl' (by assumption) ?_ | refine aixs_sln (by assumption) ?_ | refine afa_sl (by assumption) ?_ | (refine aK_sl (by assumption) (by omega) ?_; first | rintro _ ⟨rfl, _⟩ | (intro _ hx; obtain ⟨_, rfl, _, _⟩ := EvD.out hx) | (intro _ hx; obtain ⟨_, _, rfl, _, _, _⟩ := JobD.out hx) | rintro _ ⟨_, rfl, _⟩) | rw [SlR.one (by assumption)] | rw [SlR.leaf (by assumption)] | simp -implicitDefEqProofs (disch := omega) only [wrap_in, u8_small, Int.tmod_eq_emod_of_nonneg, Int.tdiv_eq_ediv_of_nonneg] | refine aK_sub (by assumption) ?_ | refine aix_strn (fun _ _ => ?_) | ((with_reducible refine adraw_seq ?_ ?_ ?_); (· kernel_rfl); (· decide +kernel)) | refine ACallK.eq (within_ok _ _ _ _ _) ?_ | simp -implicitDefEqProofs only [go_sem, slCells_own, aapp_own] | refine And.intro (by omega) (And.intro (by omega) ?_) | refine acond_split (fun _ => ?_) (fun _ => ?_) | refine agrd_bt (fun _ => ?_) (fun _ => ?_) | refine agrd_bf (fun _ => ?_) (fun _ => ?_) | refine retK_eq ?_ | refine retK_back (by assumption) ?_ | refine retK_eq2 ?_ | refine retK_back2 (by assumption) ?_)
theorem opOk_kind {o : OpD} (h : opOk o = true) : o.kind = 1 ∨ o.kind = 2 ∨ o.kind = 3 := by
  unfold opOk at h
  split at h
  · exact .inl (by assumption)
  · split at h
    · exact .inr (.inl (by assumption))
    · split at h
      · exact .inr (.inr (by assumption))
      · cases h
theorem JobOk_spec (W0 : World) (cs : List AV) (j : JobD) (H : AH) (hj : Ob.rep W0 H cs j) : ACalls Try.prog W0 114 [.agg cs] H (fun v H' => v = .v (.bool (jobOk j)) ∧ H' = H) := by
  refine acallw Try.func114 rfl (by kernel_rfl) (by kernel_rfl) fun hc hw => ?_
  obtain ⟨v, u, rfl, hv, hu, hj1⟩ := JobD.out hj
  repeat' (first | simp -implicitDefEqProofs only [go_sem] | refine acond_dec (fun _ => ?_) (fun _ => ?_) | refine acond_ndec (fun _ => ?_) (fun _ => ?_) | refine agrd_dec (fun _ => ?_) (fun _ => ?_) | refine agrd_decf (fun _ => ?_) (fun _ => ?_) | refine agrd_ndec (fun _ => ?_) (fun _ => ?_) | refine agrd_ndecf (fun _ => ?_) (fun _ => ?_) | refine abi_len_sl' (by assumption) ?_ | refine aixs_sln (by assumption) ?_ | refine afa_sl (by assumption) ?_ | (refine aK_sl (by assumption) (by omega) ?_; first | rintro _ ⟨rfl, _⟩ | (intro _ hx; obtain ⟨_, rfl, _, _⟩ := EvD.out hx) | (intro _ hx; obtain ⟨_, _, rfl, _, _, _⟩ := JobD.out hx) | rintro _ ⟨_, rfl, _⟩) | rw [SlR.one (by assumption)] | rw [SlR.leaf (by assumption)] | simp -implicitDefEqProofs (disch := omega) only [wrap_in, u8_small, Int.tmod_eq_emod_of_nonneg, Int.tdiv_eq_ediv_of_nonneg] | refine aK_sub (by assumption) ?_ | refine aix_strn (fun _ _ => ?_) | ((with_reducible refine adraw_seq ?_ ?_ ?_); (· kernel_rfl); (· decide +kernel)) | refine ACallK.eq (OpOk_spec _ _ j.op _ ⟨rfl, by simp only [hj1, and_self]⟩) ?_ | refine ACallK.eq (l10Place_ok _ _ j _ (Ob.sub (by repeat (first | exact Sub.refl _ | assumption | refine Sub.new (by assumption) ?_ _ _ | refine Sub.kill_new (by assumption) ?_ _ _ | refine Sub.trans ?_ (by assumption))) hj)) ?_ | refine ACallK.eq (l10Count_ok _ _ j _ (Ob.sub (by repeat (first | exact Sub.refl _ | assumption | refine Sub.new (by assumption) ?_ _ _ | refine Sub.kill_new (by assumption) ?_ _ _ | refine Sub.trans ?_ (by assumption))) hj)) ?_ | refine ACallK.eq (l1In_ok _ _ _ _ _) ?_ | simp -implicitDefEqProofs only [go_sem, slCells_own, aapp_own] | refine And.intro (by omega) (And.intro (by omega) ?_) | refine acond_split (fun _ => ?_) (fun _ => ?_) | refine agrd_bt (fun _ => ?_) (fun _ => ?_) | refine agrd_bf (fun _ => ?_) (fun _ => ?_) | refine retK_eq ?_ | refine retK_back (by assumption) ?_ | refine retK_eq2 ?_ | refine retK_back2 (by assumption) ?_)
  all_goals (refine bv ?_; first | (simp_all [jobOk]; done) | (simp_all [jobOk]; omega))
attribute [go_sem] rowCells
def rowB (x : RowD) : Prop := x.key.size ≤ big ∧ inI64 x.kind ∧ inI64 x.sum ∧ inI64 x.last ∧ inI64 x.n ∧ inI64 x.mn ∧ inI64 x.mx ∧ inI64 x.total ∧ inI64 x.dropped
theorem SlR.elem {α : Type} [Ob α] {W0 : World} {H : AH} {v : AV} {xs : List α} (h : SlR W0 H v xs) {x : α} (hx : x ∈ xs) : ∃ c, Ob.rep W0 H c x := by
  obtain ⟨i, hi, rfl⟩ := List.mem_iff_getElem.1 hx
  obtain ⟨c, _, hc⟩ := h.rd i hi
  exact ⟨c, hc⟩
theorem row0_B : rowB row0 := ⟨Nat.zero_le _, by simp [row0, inI64]⟩
theorem modelKind_B {W0 : World} {H : AH} {cs : List AV} {m : ModelD} (hm : Ob.rep W0 H cs m) (key : ByteArray) : inI64 (modelKind m key) := by
  obtain ⟨vk, vr, rfl, hk, hr⟩ := hm
  unfold modelKind
  split
  · rename_i k h
    obtain ⟨c, hc⟩ := hk.elem (List.mem_of_find?_eq_some h)
    exact hc.2.2
  · simp [inI64]
theorem modelRow_B {W0 : World} {H : AH} {cs : List AV} {m : ModelD} (hm : Ob.rep W0 H cs m) {key : ByteArray} (hl : key.size ≤ big) : rowB (modelRow m key) := by
  have h0 := modelKind_B hm key
  obtain ⟨vk, vr, rfl, hk, hr⟩ := hm
  unfold modelRow
  split
  · rename_i r h
    obtain ⟨c, hc⟩ := hr.elem (List.mem_of_find?_eq_some h)
    exact hc.2
  · split
    · exact row0_B
    · exact ⟨hl, h0, row0_B.2.2⟩
end Go.Proofs.Ythcjolappblieaa.Aw
