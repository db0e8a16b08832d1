/- Reports: the reference's way of putting a row among the others. -/
import Derived.Test.YtipfnhfcoolhaaaGreatFri
namespace Go.Proofs.YtipfnhfcoolhaaaGreat.Aw
open Go Go.RowKit
set_option linter.unusedVariables false
set_option linter.unusedSimpArgs false
set_option maxRecDepth 100000
set_option maxHeartbeats 2000000
attribute [-go_sem] aapp2_some
theorem acc2 {α : Type} [Ob α] [Own α] [Flat α] {K : Kt} {H : AH} {B : Option Blk} {new : List AV} {s by' z b n : Nat} {xs : List α} {r : α} (hB : B = some ⟨encL xs, s⟩) (hn : n = xs.length) (hnew : new = Flat.enc r) (hx : ∀ x ∈ xs, Flat.ok x) (hr : Flat.ok r) (hs : s = Ob.n α) (k : K.k (.sl H.nxt 0 (xs.length + 1)) ((H.kill b).new (encL (xs ++ [r])) s))
    (g0 : 0 < s := by decide) (g1 : 0 < by' := by decide) (g2 : z = s := by rfl) (g3 : (xs.length + 1) * by' ≤ 140737488355328 := by omega) : aapp2 (K := K) B (some new) s by' z b 0 n 1 H := by
  subst hB hn hnew
  rw [aapp2_some]
  have hl := encL_len hx
  refine ⟨g0, g1, g2, ?_, rfl, by rw [hl, hs]; omega, g3, ?_⟩
  · have h1 := all_encL (xs := [r]) (by simpa using hr); simpa [encL] using h1
  · rw [List.drop_zero, List.take_of_length_le (by rw [hl, hs]; exact Nat.le_refl _)]
    have e : encL xs ++ Flat.enc r = encL (xs ++ [r]) := by rw [encL_append]; simp [encL]
    rw [e]; exact k
/-- How far the rows are laid. -/
def putTo (l : List RowD) (r : RowD) (i : Nat) : List RowD := if gtAny (kf := RowD.key) (l.take i) r.key = true then insK RowD.key (l.take i) r else l.take i
theorem putTo_zero (l : List RowD) (r : RowD) : putTo l r 0 = [] := by simp [putTo, gtAny]
theorem gtAny_succ (l : List RowD) (key : ByteArray) {i : Nat} (h : i < l.length) : gtAny (kf := RowD.key) (l.take (i + 1)) key = (gtAny (kf := RowD.key) (l.take i) key || decide (klt key l[i].key)) := by
  unfold gtAny; rw [List.take_succ_eq_append_getElem h, List.any_append]; simp
theorem putTo_succ (l : List RowD) (r : RowD) {i : Nat} (h : i < l.length) : putTo l r (i + 1) = if gtAny (kf := RowD.key) (l.take i) r.key = true then putTo l r i ++ [l[i]] else if klt r.key l[i].key then (putTo l r i ++ [r]) ++ [l[i]] else putTo l r i ++ [l[i]] := by
  unfold putTo
  rw [gtAny_succ _ _ h, List.take_succ_eq_append_getElem h]
  rw [insK_snoc]
  by_cases g : gtAny (kf := RowD.key) (l.take i) r.key = true
  · rw [g]; simp
  · by_cases k : klt r.key l[i].key
    · simp only [Bool.not_eq_true] at g; rw [g]; simp [k]
    · simp only [Bool.not_eq_true] at g; rw [g]; simp [k]
theorem putTo_length (l : List RowD) (r : RowD) (i : Nat) : (putTo l r i).length ≤ i + 1 := by
  unfold putTo; split
  · rw [insK_length]; simp; omega
  · simp; omega
theorem putTo_ok {l : List RowD} {r : RowD} (h : ∀ x ∈ l, Flat.ok x) (hr : Flat.ok r) (i : Nat) : ∀ x ∈ putTo l r i, Flat.ok x := by
  unfold putTo; intro x hx
  split at hx
  · rcases mem_insK.1 hx with rfl | hx
    · exact hr
    · exact h x (List.mem_of_mem_take hx)
  · exact h x (List.mem_of_mem_take hx)
theorem l8Put_ok (W0 : World) (v : AV) (l : List RowD) (r : RowD) (S : List Nat) (H : AH) (ho : OwnS H S v l) (hn : S.Nodup) (hl : l.length ≤ 1000) (hr : rowB r) :
    ACalls Tryz.prog W0 125 [v, .agg (rowCells r)] H (fun u H' => ∃ S', OwnS H' S' u (putK RowD.key l r) ∧ Upd S H H' S') := by
  refine acallw Tryz.func125 rfl (by kernel_rfl) (by kernel_rfl) fun hc hw => ?_
  have hv := ho.slr (W0 := W0)
  have hok : ∀ x ∈ l, Flat.ok x := by
    rcases ho.flat with ⟨-, rfl, -⟩ | ⟨b, o, cs, -, -, -, -, -, -, h⟩
    · intro x hx; cases hx
    · exact h
  simp only [rowCells]
  repeat' (first | simp -implicitDefEqProofs only [go_sem] | refine acond_decF (by omega) ?_ | refine acond_decT (by omega) ?_ | refine acond_ndecF (by omega) ?_ | refine acond_ndecT (by omega) ?_ | refine acond_dec (fun _ => ?_) (fun _ => ?_) | refine acond_ndec (fun _ => ?_) (fun _ => ?_) | refine agrd_dec (fun _ => ?_) (fun _ => ?_) | refine agrd_decf (fun _ => ?_) (fun _ => ?_) | refine agrd_ndec (fun _ => ?_) (fun _ => ?_) | refine agrd_ndecf (fun _ => ?_) (fun _ => ?_) | refine abi_len_sl' (by assumption) ?_ | refine aixs_sln (by assumption) ?_ | refine afa_sl (by assumption) ?_ | (refine aK_sl (by assumption) (by omega) ?_; first | rintro _ ⟨rfl, _⟩ | (intro _ hx; obtain ⟨_, rfl, _, _⟩ := EvD.out hx) | (intro _ hx; obtain ⟨_, _, rfl, _, _, _⟩ := JobD.out hx) | rintro _ ⟨_, rfl, _⟩) | rw [SlR.one (by assumption)] | rw [SlR.leaf (by assumption)] | simp -implicitDefEqProofs (disch := omega) only [wrap_in, u8_small, Int.tmod_eq_emod_of_nonneg, Int.tdiv_eq_ediv_of_nonneg] | refine aK_sub (by assumption) ?_ | refine aix_strn (fun _ _ => ?_) | ((with_reducible refine adraw_seq ?_ ?_ ?_); (· kernel_rfl); (· decide +kernel)) | simp -implicitDefEqProofs only [go_sem, slCells_own, aapp_own] | (with_reducible refine And.intro (by omega) ?_) | refine And.intro (by omega) (And.intro (by omega) ?_) | refine acond_split (fun _ => ?_) (fun _ => ?_) | refine agrd_bt (fun _ => ?_) (fun _ => ?_) | refine agrd_bf (fun _ => ?_) (fun _ => ?_) | refine retK_eq ?_ | refine retK_back (by assumption) ?_ | refine retK_eq2 ?_ | refine retK_back2 (by assumption) ?_ | (with_reducible refine And.intro ?_ ?_))
  have hw0 : (H.new [AV.v (Value.string r.key), AV.v (Value.int IntKind.i64 r.kind), AV.v (Value.int IntKind.i64 r.sum), AV.v (Value.bool r.set), AV.v (Value.int IntKind.i64 r.last), AV.v (Value.int IntKind.i64 r.n), AV.v (Value.int IntKind.i64 r.mn), AV.v (Value.int IntKind.i64 r.mx), AV.v (Value.int IntKind.i64 r.total), AV.v (Value.int IntKind.i64 r.dropped)] 10).wf := hw.new _ _
  refine acode_while (fun (p : Nat × Nat) => [(0, v), (3, .ptr H.nxt 0), (5, .sl p.2 0 (putTo l r p.1).length), (6, .v (.bool (gtAny (kf := RowD.key) (l.take p.1) r.key))), (7, .v (.int .i64 p.1))]) (fun p H' => Sub (H.new (rowCells r) 10) H' ∧ p.1 ≤ l.length ∧ hasK RowD.key (l.take p.1) r.key = false ∧ H.nxt + 1 ≤ p.2 ∧ p.2 < H'.nxt ∧ H'.blk p.2 = some ⟨encL (putTo l r p.1), 10⟩) (fun p => l.length - p.1) (0, H.nxt + 1) ?_ ?_ (by simp only [frOk, go_sem, putTo_zero]; simp [gtAny])
  · refine ⟨by repeat (first | exact Sub.refl _ | assumption | refine Sub.new (by assumption) ?_ _ _ | refine Sub.kill_new (by assumption) ?_ _ _ | refine Sub.trans ?_ (by assumption)), by simp only; omega, by simp [hasK], by simp only; omega, by simp only [go_sem]; omega, by simp only [go_sem, putTo_zero]; rfl⟩
  rintro ⟨i, b⟩ H' ⟨hs, hi, hP, hb, hbl, hB⟩
  simp only at hi hP hb hbl hB ⊢
  have hbn : b ≠ H'.nxt := by omega
  have hpl := putTo_length l r i
  have hpo := putTo_ok hok hr i
  have hli : ∀ (h : i < l.length), Flat.ok l[i] := fun h => hok _ (List.getElem_mem h)
  have hpo2 : ∀ x ∈ putTo l r i ++ [r], Flat.ok x := by intro x hx; rcases List.mem_append.1 hx with hx | hx; exact hpo x hx; rw [List.mem_singleton.1 hx]; exact hr
  have hb0 : H.nxt ≤ b := by omega
  have hb0' : (H.new (rowCells r) 10).nxt ≤ b := by simp only [go_sem]; omega
  have hP2 := putTo_succ l r (i := i)
  have hs0 : Sub H H' := (Sub.new hw (Sub.refl _) _ _).trans hs
  have hs1 := hs
  have hlp : ∀ (h : i < l.length), hasK RowD.key (l.take (i + 1)) r.key = (hasK RowD.key (l.take i) r.key || decide (l[i].key = r.key)) := fun h => by
    unfold hasK; rw [List.take_succ_eq_append_getElem h, List.any_append]; simp
  repeat' (first | simp -implicitDefEqProofs only [go_sem] | (simp only [if_neg hbn, hB]) | (refine aixs_sln (by assumption) ?_ (by repeat (first | exact Sub.refl _ | assumption | refine Sub.new (by assumption) ?_ _ _ | refine Sub.kill_new (by assumption) ?_ _ _ | refine Sub.kill (by assumption) ?_ (by first | omega | (simp only [go_sem]; omega)) | refine Sub.trans ?_ (by assumption)))) | (refine aK_sl (by assumption) (by omega) ?_ (by repeat (first | exact Sub.refl _ | assumption | refine Sub.new (by assumption) ?_ _ _ | refine Sub.kill_new (by assumption) ?_ _ _ | refine Sub.kill (by assumption) ?_ (by first | omega | (simp only [go_sem]; omega)) | refine Sub.trans ?_ (by assumption))); rintro _ ⟨rfl, _⟩) | (refine acc2 (xs := putTo l r i) (r := r) rfl rfl rfl hpo hr rfl ?_) | (refine acc2 (xs := putTo l r i) (r := l[i]) rfl rfl rfl hpo (hli _) rfl ?_) | (refine acc2 (xs := putTo l r i ++ [r]) (r := l[i]) rfl (by simp) rfl hpo2 (hli _) rfl ?_ (by decide) (by decide) rfl (by simp only [List.length_append, List.length_singleton]; omega)) | refine acond_decF (by omega) ?_ | refine acond_decT (by omega) ?_ | refine acond_ndecF (by omega) ?_ | refine acond_ndecT (by omega) ?_ | refine acond_dec (fun _ => ?_) (fun _ => ?_) | refine acond_ndec (fun _ => ?_) (fun _ => ?_) | refine agrd_dec (fun _ => ?_) (fun _ => ?_) | refine agrd_decf (fun _ => ?_) (fun _ => ?_) | refine agrd_ndec (fun _ => ?_) (fun _ => ?_) | refine agrd_ndecf (fun _ => ?_) (fun _ => ?_) | refine abi_len_sl' (by assumption) ?_ | refine aixs_sln (by assumption) ?_ | refine afa_sl (by assumption) ?_ | (refine aK_sl (by assumption) (by omega) ?_; first | rintro _ ⟨rfl, _⟩ | (intro _ hx; obtain ⟨_, rfl, _, _⟩ := EvD.out hx) | (intro _ hx; obtain ⟨_, _, rfl, _, _, _⟩ := JobD.out hx) | rintro _ ⟨_, rfl, _⟩) | rw [SlR.one (by assumption)] | rw [SlR.leaf (by assumption)] | simp -implicitDefEqProofs (disch := omega) only [wrap_in, u8_small, Int.tmod_eq_emod_of_nonneg, Int.tdiv_eq_ediv_of_nonneg] | refine aK_sub (by assumption) ?_ | refine aix_strn (fun _ _ => ?_) | ((with_reducible refine adraw_seq ?_ ?_ ?_); (· kernel_rfl); (· decide +kernel)) | simp -implicitDefEqProofs only [go_sem, slCells_own, aapp_own] | (with_reducible refine And.intro (by omega) ?_) | refine And.intro (by omega) (And.intro (by omega) ?_) | refine acond_split (fun _ => ?_) (fun _ => ?_) | refine agrd_bt (fun _ => ?_) (fun _ => ?_) | refine agrd_bf (fun _ => ?_) (fun _ => ?_) | refine retK_eq ?_ | refine retK_back (by assumption) ?_ | refine retK_eq2 ?_ | refine retK_back2 (by assumption) ?_ | (with_reducible refine And.intro ?_ ?_))
  · have hil : i < l.length := by omega
    have e : putK RowD.key l r = l := by
      unfold putK
      rw [if_pos]
      exact List.any_eq_true.2 ⟨l[i], List.getElem_mem hil, decide_eq_true (by assumption)⟩
    rw [e]
    exact retK_one ⟨S, ho.sub hs0, Upd.idle hs0 hn⟩
  · have hil : i < l.length := by omega
    have hg : gtAny (kf := RowD.key) (l.take i) r.key = false := by simp_all
    have hk : klt r.key l[i].key := klt_gtr (by simp_all) (by assumption)
    have e := hP2 hil
    rw [hg, if_neg (by decide), if_pos hk] at e
    have e2 := gtAny_succ l r.key hil
    rw [hg, decide_eq_true hk] at e2
    refine back (i + 1, H'.nxt + 3) ⟨by repeat (first | exact Sub.refl _ | assumption | refine Sub.new (by assumption) ?_ _ _ | refine Sub.kill_new (by assumption) ?_ _ _ | refine Sub.kill (by assumption) ?_ (by first | omega | (simp only [go_sem]; omega)) | refine Sub.trans ?_ (by assumption)), by simp only; omega, by simp only; rw [hlp hil, hP, decide_eq_false (by assumption)]; rfl, by simp only; omega, by simp only [go_sem]; omega, ?_⟩ (by simp only; omega) ?_
    · simp only [e]; simp only [go_sem]
    · simp only [frOk, go_sem, e, e2]; simp
  · have hil : i < l.length := by omega
    have hg : gtAny (kf := RowD.key) (l.take i) r.key = false := by simp_all
    have hk : ¬ klt r.key l[i].key := fun h => by
      have h1 := klt_asymm h
      unfold klt at h1; simp_all
    have e := hP2 hil
    rw [hg, if_neg (by decide), if_neg hk] at e
    have e2 := gtAny_succ l r.key hil
    rw [hg, decide_eq_false hk] at e2
    refine back (i + 1, H'.nxt + 1) ⟨by repeat (first | exact Sub.refl _ | assumption | refine Sub.new (by assumption) ?_ _ _ | refine Sub.kill_new (by assumption) ?_ _ _ | refine Sub.kill (by assumption) ?_ (by first | omega | (simp only [go_sem]; omega)) | refine Sub.trans ?_ (by assumption)), by simp only; omega, by simp only; rw [hlp hil, hP, decide_eq_false (by assumption)]; rfl, by simp only; omega, by simp only [go_sem]; omega, ?_⟩ (by simp only; omega) ?_
    · simp only [e]; simp only [go_sem]
    · simp only [frOk, go_sem, e, e2, hg]; simp
  · have hil : i < l.length := by omega
    have hg : gtAny (kf := RowD.key) (l.take i) r.key = true := by simp_all
    have e := hP2 hil
    rw [if_pos hg] at e
    have e2 := gtAny_succ l r.key hil
    rw [hg] at e2
    refine back (i + 1, H'.nxt + 1) ⟨by repeat (first | exact Sub.refl _ | assumption | refine Sub.new (by assumption) ?_ _ _ | refine Sub.kill_new (by assumption) ?_ _ _ | refine Sub.kill (by assumption) ?_ (by first | omega | (simp only [go_sem]; omega)) | refine Sub.trans ?_ (by assumption)), by simp only; omega, by simp only; rw [hlp hil, hP, decide_eq_false (by assumption)]; rfl, by simp only; omega, by simp only [go_sem]; omega, ?_⟩ (by simp only; omega) ?_
    · simp only [e]; simp only [go_sem]
    · simp only [frOk, go_sem, e, e2, hg]; simp
  · have hil : i = l.length := by omega
    subst hil
    have hg : gtAny (kf := RowD.key) l r.key = false := by simp_all
    have e : putK RowD.key l r = putTo l r l.length ++ [r] := by
      unfold putK putTo
      rw [List.take_length] at hP ⊢
      rw [hP, hg, if_neg (by decide), if_neg (by decide), insK_none hg]
    rw [e]
    refine retK_one ⟨[H'.nxt + 1], OwnS.ofFlat (cs := encL (putTo l r l.length ++ [r])) (by simp only [go_sem]; rfl) ?_ ?_ (by simp only [big, List.length_append, List.length_singleton]; omega) hpo2 (by simp), Upd.ofSub (by repeat (first | exact Sub.refl _ | assumption | refine Sub.new (by assumption) ?_ _ _ | refine Sub.kill_new (by assumption) ?_ _ _ | refine Sub.kill (by assumption) ?_ (by first | omega | (simp only [go_sem]; omega)) | refine Sub.trans ?_ (by assumption))) ⟨by simp, by intro x hx; simp at hx; omega⟩⟩
    · rw [List.drop_zero]; exact List.take_of_length_le (by rw [encL_len hpo2]; exact Nat.le_refl _)
    · rw [encL_len hpo2]; omega
  · have hil : i = l.length := by omega
    subst hil
    have hg : gtAny (kf := RowD.key) l r.key = true := by simp_all
    have e : putK RowD.key l r = putTo l r l.length := by
      unfold putK putTo
      rw [List.take_length] at hP ⊢
      rw [hP, if_neg (by decide), if_pos hg]
    rw [e]
    refine retK_one ⟨[b], OwnS.ofFlat (cs := encL (putTo l r l.length)) hB ?_ ?_ (by simp only [big]; omega) hpo rfl, Upd.ofSub hs0 ⟨by simp, by intro x hx; simp at hx; omega⟩⟩
    · rw [List.drop_zero]; exact List.take_of_length_le (by rw [encL_len hpo]; exact Nat.le_refl _)
    · rw [encL_len hpo]; omega
end Go.Proofs.YtipfnhfcoolhaaaGreat.Aw
