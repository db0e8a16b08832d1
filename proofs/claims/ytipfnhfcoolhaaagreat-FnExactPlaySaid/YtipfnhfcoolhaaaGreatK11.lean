/- Parts of a proof: Fri Frj Frk Fwx Gr Gn Fcq Fwy. -/
import Derived.Test.YtipfnhfcoolhaaaGreatK10
import Derived.Test.YtipfnhfcoolhaaaGreatK07
import Derived.Test.YtipfnhfcoolhaaaGreatK06
import Derived.Test.YtipfnhfcoolhaaaGreatK04
import Derived.Test.YtipfnhfcoolhaaaGreatK09
set_option linter.unusedVariables false
set_option linter.unusedSimpArgs false
section
namespace Go.Proofs.YtipfnhfcoolhaaaGreat.Aw
open Go Go.RowKit
set_option maxRecDepth 100000
set_option maxHeartbeats 2000000
theorem put_ok (W0 : World) (v : AV) (l : List RowD) (r : RowD) (S : List Nat) (H : AH) (ho : OwnS H S v l) (hn : S.Nodup) (hs : SortedK RowD.key l) (hl : l.length ≤ 1000) (hr : rowB r) :
    ACalls Tryz.prog W0 137 [v, .agg (rowCells r)] H (fun u H' => ∃ S', OwnS H' S' u (addRow l r) ∧ Upd S H H' S') := by
  refine acallw Tryz.func137 rfl (by kernel_rfl) (by kernel_rfl) fun hc hw => ?_
  simp only [rowCells]
  have hsl := ho.slr (W0 := W0)
  have hlt := fun b hb => hw.lt' (ho.isin b hb)
  repeat' (first | simp -implicitDefEqProofs only [go_sem] | (refine ACallK.of (BinarySearchFuncRow_ok _ _ l r.key _ _ (SlR.sub' hsl) hs (fun cs x hx => put1_ok _ _ _ _ _ hx)) ?_; rintro _ _ ⟨⟨i, hA, rfl⟩, rfl⟩) | refine ACallK.eq (Quiet_impl _ _ r _ ⟨rfl, hr⟩) ?_ | refine agrd_decf (fun _ => ?_) (fun _ => ?_) | refine acond_split (fun _ => ?_) (fun _ => ?_) | refine agrd_bf (fun _ => ?_) (fun _ => ?_))
  all_goals first
    | (have e : addRow l r = l := by { unfold addRow putK; simp_all }
       rw [e]; exact retK_one ⟨S, ho.sub (by repeat (first | exact Sub.refl _ | assumption | refine Sub.new (by assumption) ?_ _ _ | refine Sub.kill_new (by assumption) ?_ _ _ | refine Sub.trans ?_ (by assumption))), Upd.idle (by repeat (first | exact Sub.refl _ | assumption | refine Sub.new (by assumption) ?_ _ _ | refine Sub.kill_new (by assumption) ?_ _ _ | refine Sub.trans ?_ (by assumption))) hn⟩)
    | skip
  have e : addRow l r = l.take i ++ r :: l.drop i := by
    rw [← hA.ins (by simp_all)]; unfold addRow putK; simp_all
  refine ACallK.of (InsertRowD_ok _ _ l r i _ S _ (ho.sub (by repeat (first | exact Sub.refl _ | assumption | refine Sub.new (by assumption) ?_ _ _ | refine Sub.kill_new (by assumption) ?_ _ _ | refine Sub.trans ?_ (by assumption)))) hA.1 (by omega) hr (by simp only [go_sem]; rfl) ?_) ?_
  · intro h; have := hlt _ h; omega
  rintro u H' ⟨S', h1, h2⟩
  repeat' (first | simp -implicitDefEqProofs only [go_sem])
  rw [e]
  exact retK_one ⟨S', h1, h2.start (by repeat (first | exact Sub.refl _ | assumption | refine Sub.new (by assumption) ?_ _ _ | refine Sub.kill_new (by assumption) ?_ _ _ | refine Sub.trans ?_ (by assumption)))⟩
end Go.Proofs.YtipfnhfcoolhaaaGreat.Aw
end
section
namespace Go.Proofs.YtipfnhfcoolhaaaGreat.Aw
open Go Go.RowKit
set_option maxRecDepth 100000
set_option maxHeartbeats 2000000
attribute [-go_sem] aapp2_some
theorem acc2 {α : Type} [Ob α] [Own α] [Flat α] {K : Kt} {H : AH} {B : Option Blk} {new : List AV} {s by' z b n : Nat} {xs : List α} {r : α} (hB : B = some ⟨encL xs, s⟩) (hn : n = xs.length) (hnew : new = Flat.enc r) (hx : ∀ x ∈ xs, Flat.ok x) (hr : Flat.ok r) (hs : s = Ob.n α) (k : K.k (.sl H.nxt 0 (xs.length + 1)) ((H.kill b).new (encL (xs ++ [r])) s))
    (g0 : 0 < s := by decide) (g1 : 0 < by' := by decide) (g2 : z = s := by rfl) (g3 : (xs.length + 1) * by' ≤ 140737488355328 := by omega) : aapp2 (K := K) B (some new) s by' z b 0 n 1 H := by
  subst hB hn hnew
  rw [aapp2_some]
  have hl := encL_len hx
  refine ⟨g0, g1, g2, ?_, rfl, by rw [hl, hs]; omega, g3, ?_⟩
  · have h1 := all_encL (xs := [r]) (by simpa using hr); simpa [encL] using h1
  · rw [List.drop_zero, List.take_of_length_le (by rw [hl, hs]; exact Nat.le_refl _)]
    have e : encL xs ++ Flat.enc r = encL (xs ++ [r]) := by rw [encL_append]; simp [encL]
    rw [e]; exact k
def putTo (l : List RowD) (r : RowD) (i : Nat) : List RowD := if gtAny (kf := RowD.key) (l.take i) r.key = true then insK RowD.key (l.take i) r else l.take i
theorem putTo_zero (l : List RowD) (r : RowD) : putTo l r 0 = [] := by simp [putTo, gtAny]
theorem gtAny_succ (l : List RowD) (key : ByteArray) {i : Nat} (h : i < l.length) : gtAny (kf := RowD.key) (l.take (i + 1)) key = (gtAny (kf := RowD.key) (l.take i) key || decide (klt key l[i].key)) := by
  unfold gtAny; rw [List.take_succ_eq_append_getElem h, List.any_append]; simp
theorem putTo_succ (l : List RowD) (r : RowD) {i : Nat} (h : i < l.length) : putTo l r (i + 1) = if gtAny (kf := RowD.key) (l.take i) r.key = true then putTo l r i ++ [l[i]] else if klt r.key l[i].key then (putTo l r i ++ [r]) ++ [l[i]] else putTo l r i ++ [l[i]] := by
  unfold putTo
  rw [gtAny_succ _ _ h, List.take_succ_eq_append_getElem h]
  rw [insK_snoc]
  by_cases g : gtAny (kf := RowD.key) (l.take i) r.key = true
  · rw [g]; simp
  · by_cases k : klt r.key l[i].key
    · simp only [Bool.not_eq_true] at g; rw [g]; simp [k]
    · simp only [Bool.not_eq_true] at g; rw [g]; simp [k]
theorem putTo_length (l : List RowD) (r : RowD) (i : Nat) : (putTo l r i).length ≤ i + 1 := by
  unfold putTo; split
  · rw [insK_length]; simp; omega
  · simp; omega
theorem putTo_ok {l : List RowD} {r : RowD} (h : ∀ x ∈ l, Flat.ok x) (hr : Flat.ok r) (i : Nat) : ∀ x ∈ putTo l r i, Flat.ok x := by
  unfold putTo; intro x hx
  split at hx
  · rcases mem_insK.1 hx with rfl | hx
    · exact hr
    · exact h x (List.mem_of_mem_take hx)
  · exact h x (List.mem_of_mem_take hx)
theorem l8Put_ok (W0 : World) (v : AV) (l : List RowD) (r : RowD) (S : List Nat) (H : AH) (ho : OwnS H S v l) (hn : S.Nodup) (hl : l.length ≤ 1000) (hr : rowB r) :
    ACalls Tryz.prog W0 125 [v, .agg (rowCells r)] H (fun u H' => ∃ S', OwnS H' S' u (putK RowD.key l r) ∧ Upd S H H' S') := by
  refine acallw Tryz.func125 rfl (by kernel_rfl) (by kernel_rfl) fun hc hw => ?_
  have hv := ho.slr (W0 := W0)
  have hok : ∀ x ∈ l, Flat.ok x := by
    rcases ho.flat with ⟨-, rfl, -⟩ | ⟨b, o, cs, -, -, -, -, -, -, h⟩
    · intro x hx; cases hx
    · exact h
  simp only [rowCells]
  repeat' (first | simp -implicitDefEqProofs only [go_sem])
  have hw0 : (H.new [AV.v (Value.string r.key), AV.v (Value.int IntKind.i64 r.kind), AV.v (Value.int IntKind.i64 r.sum), AV.v (Value.bool r.set), AV.v (Value.int IntKind.i64 r.last), AV.v (Value.int IntKind.i64 r.n), AV.v (Value.int IntKind.i64 r.mn), AV.v (Value.int IntKind.i64 r.mx), AV.v (Value.int IntKind.i64 r.total), AV.v (Value.int IntKind.i64 r.dropped)] 10).wf := hw.new _ _
  refine acode_while (fun (p : Nat × Nat) => [(0, v), (3, .ptr H.nxt 0), (5, .sl p.2 0 (putTo l r p.1).length), (6, .v (.bool (gtAny (kf := RowD.key) (l.take p.1) r.key))), (7, .v (.int .i64 p.1))]) (fun p H' => Sub (H.new (rowCells r) 10) H' ∧ p.1 ≤ l.length ∧ hasK RowD.key (l.take p.1) r.key = false ∧ H.nxt + 1 ≤ p.2 ∧ p.2 < H'.nxt ∧ H'.blk p.2 = some ⟨encL (putTo l r p.1), 10⟩) (fun p => l.length - p.1) (0, H.nxt + 1) ?_ ?_ (by simp only [frOk, go_sem, putTo_zero]; simp [gtAny])
  · refine ⟨by repeat (first | exact Sub.refl _ | assumption | refine Sub.new (by assumption) ?_ _ _ | refine Sub.kill_new (by assumption) ?_ _ _ | refine Sub.trans ?_ (by assumption)), by simp only; omega, by simp [hasK], by simp only; omega, by simp only [go_sem]; omega, by simp only [go_sem, putTo_zero]; rfl⟩
  rintro ⟨i, b⟩ H' ⟨hs, hi, hP, hb, hbl, hB⟩
  simp only at hi hP hb hbl hB ⊢
  have hbn : b ≠ H'.nxt := by omega
  have hpl := putTo_length l r i
  have hpo := putTo_ok hok hr i
  have hli : ∀ (h : i < l.length), Flat.ok l[i] := fun h => hok _ (List.getElem_mem h)
  have hpo2 : ∀ x ∈ putTo l r i ++ [r], Flat.ok x := by intro x hx; rcases List.mem_append.1 hx with hx | hx; exact hpo x hx; rw [List.mem_singleton.1 hx]; exact hr
  have hb0 : H.nxt ≤ b := by omega
  have hb0' : (H.new (rowCells r) 10).nxt ≤ b := by simp only [go_sem]; omega
  have hP2 := putTo_succ l r (i := i)
  have hs0 : Sub H H' := (Sub.new hw (Sub.refl _) _ _).trans hs
  have hs1 := hs
  have hlp : ∀ (h : i < l.length), hasK RowD.key (l.take (i + 1)) r.key = (hasK RowD.key (l.take i) r.key || decide (l[i].key = r.key)) := fun h => by
    unfold hasK; rw [List.take_succ_eq_append_getElem h, List.any_append]; simp
  repeat' (first | simp -implicitDefEqProofs only [go_sem] | (simp only [if_neg hbn, hB]) | (refine aixs_sln (by assumption) ?_ (by repeat (first | exact Sub.refl _ | assumption | refine Sub.new (by assumption) ?_ _ _ | refine Sub.kill_new (by assumption) ?_ _ _ | refine Sub.kill (by assumption) ?_ (by first | omega | (simp only [go_sem]; omega)) | refine Sub.trans ?_ (by assumption)))) | (refine aK_sl (by assumption) (by omega) ?_ (by repeat (first | exact Sub.refl _ | assumption | refine Sub.new (by assumption) ?_ _ _ | refine Sub.kill_new (by assumption) ?_ _ _ | refine Sub.kill (by assumption) ?_ (by first | omega | (simp only [go_sem]; omega)) | refine Sub.trans ?_ (by assumption))); rintro _ ⟨rfl, _⟩) | (refine acc2 (xs := putTo l r i) (r := r) rfl rfl rfl hpo hr rfl ?_) | (refine acc2 (xs := putTo l r i) (r := l[i]) rfl rfl rfl hpo (hli _) rfl ?_) | (refine acc2 (xs := putTo l r i ++ [r]) (r := l[i]) rfl (by simp) rfl hpo2 (hli _) rfl ?_ (by decide) (by decide) rfl (by simp only [List.length_append, List.length_singleton]; omega)) | refine acond_dec (fun _ => ?_) (fun _ => ?_) | refine abi_len_sl' (by assumption) ?_ | refine afa_sl (by assumption) ?_ | simp -implicitDefEqProofs (disch := omega) only [wrap_in, u8_small, Int.tmod_eq_emod_of_nonneg, Int.tdiv_eq_ediv_of_nonneg] | refine aK_sub (by assumption) ?_ | ((with_reducible refine adraw_seq ?_ ?_ ?_); (· kernel_rfl); (· decide +kernel)) | simp -implicitDefEqProofs only [go_sem, slCells_own, aapp_own] | refine acond_split (fun _ => ?_) (fun _ => ?_) | refine agrd_bt (fun _ => ?_) (fun _ => ?_))
  · have hil : i < l.length := by omega
    have e : putK RowD.key l r = l := by
      unfold putK
      rw [if_pos]
      exact List.any_eq_true.2 ⟨l[i], List.getElem_mem hil, decide_eq_true (by assumption)⟩
    rw [e]
    exact retK_one ⟨S, ho.sub hs0, Upd.idle hs0 hn⟩
  · have hil : i < l.length := by omega
    have hg : gtAny (kf := RowD.key) (l.take i) r.key = false := by simp_all
    have hk : klt r.key l[i].key := klt_gtr (by simp_all) (by assumption)
    have e := hP2 hil
    rw [hg, if_neg (by decide), if_pos hk] at e
    have e2 := gtAny_succ l r.key hil
    rw [hg, decide_eq_true hk] at e2
    refine back (i + 1, H'.nxt + 3) ⟨by repeat (first | exact Sub.refl _ | assumption | refine Sub.new (by assumption) ?_ _ _ | refine Sub.kill_new (by assumption) ?_ _ _ | refine Sub.kill (by assumption) ?_ (by first | omega | (simp only [go_sem]; omega)) | refine Sub.trans ?_ (by assumption)), by simp only; omega, by simp only; rw [hlp hil, hP, decide_eq_false (by assumption)]; rfl, by simp only; omega, by simp only [go_sem]; omega, ?_⟩ (by simp only; omega) ?_
    · simp only [e]; simp only [go_sem]
    · simp only [frOk, go_sem, e, e2]; simp
  · have hil : i < l.length := by omega
    have hg : gtAny (kf := RowD.key) (l.take i) r.key = false := by simp_all
    have hk : ¬ klt r.key l[i].key := fun h => by
      have h1 := klt_asymm h
      unfold klt at h1; simp_all
    have e := hP2 hil
    rw [hg, if_neg (by decide), if_neg hk] at e
    have e2 := gtAny_succ l r.key hil
    rw [hg, decide_eq_false hk] at e2
    refine back (i + 1, H'.nxt + 1) ⟨by repeat (first | exact Sub.refl _ | assumption | refine Sub.new (by assumption) ?_ _ _ | refine Sub.kill_new (by assumption) ?_ _ _ | refine Sub.kill (by assumption) ?_ (by first | omega | (simp only [go_sem]; omega)) | refine Sub.trans ?_ (by assumption)), by simp only; omega, by simp only; rw [hlp hil, hP, decide_eq_false (by assumption)]; rfl, by simp only; omega, by simp only [go_sem]; omega, ?_⟩ (by simp only; omega) ?_
    · simp only [e]; simp only [go_sem]
    · simp only [frOk, go_sem, e, e2, hg]; simp
  · have hil : i < l.length := by omega
    have hg : gtAny (kf := RowD.key) (l.take i) r.key = true := by simp_all
    have e := hP2 hil
    rw [if_pos hg] at e
    have e2 := gtAny_succ l r.key hil
    rw [hg] at e2
    refine back (i + 1, H'.nxt + 1) ⟨by repeat (first | exact Sub.refl _ | assumption | refine Sub.new (by assumption) ?_ _ _ | refine Sub.kill_new (by assumption) ?_ _ _ | refine Sub.kill (by assumption) ?_ (by first | omega | (simp only [go_sem]; omega)) | refine Sub.trans ?_ (by assumption)), by simp only; omega, by simp only; rw [hlp hil, hP, decide_eq_false (by assumption)]; rfl, by simp only; omega, by simp only [go_sem]; omega, ?_⟩ (by simp only; omega) ?_
    · simp only [e]; simp only [go_sem]
    · simp only [frOk, go_sem, e, e2, hg]; simp
  · have hil : i = l.length := by omega
    subst hil
    have hg : gtAny (kf := RowD.key) l r.key = false := by simp_all
    have e : putK RowD.key l r = putTo l r l.length ++ [r] := by
      unfold putK putTo
      rw [List.take_length] at hP ⊢
      rw [hP, hg, if_neg (by decide), if_neg (by decide), insK_none hg]
    rw [e]
    refine retK_one ⟨[H'.nxt + 1], OwnS.ofFlat (cs := encL (putTo l r l.length ++ [r])) (by simp only [go_sem]; rfl) ?_ ?_ (by simp only [big, List.length_append, List.length_singleton]; omega) hpo2 (by simp), Upd.ofSub (by repeat (first | exact Sub.refl _ | assumption | refine Sub.new (by assumption) ?_ _ _ | refine Sub.kill_new (by assumption) ?_ _ _ | refine Sub.kill (by assumption) ?_ (by first | omega | (simp only [go_sem]; omega)) | refine Sub.trans ?_ (by assumption))) ⟨by simp, by intro x hx; simp at hx; omega⟩⟩
    · rw [List.drop_zero]; exact List.take_of_length_le (by rw [encL_len hpo2]; exact Nat.le_refl _)
    · rw [encL_len hpo2]; omega
  · have hil : i = l.length := by omega
    subst hil
    have hg : gtAny (kf := RowD.key) l r.key = true := by simp_all
    have e : putK RowD.key l r = putTo l r l.length := by
      unfold putK putTo
      rw [List.take_length] at hP ⊢
      rw [hP, if_neg (by decide), if_pos hg]
    rw [e]
    refine retK_one ⟨[b], OwnS.ofFlat (cs := encL (putTo l r l.length)) hB ?_ ?_ (by simp only [big]; omega) hpo rfl, Upd.ofSub hs0 ⟨by simp, by intro x hx; simp at hx; omega⟩⟩
    · rw [List.drop_zero]; exact List.take_of_length_le (by rw [encL_len hpo]; exact Nat.le_refl _)
    · rw [encL_len hpo]; omega
end Go.Proofs.YtipfnhfcoolhaaaGreat.Aw
end
section
namespace Go.Proofs.YtipfnhfcoolhaaaGreat.Aw
open Go Go.RowKit
set_option maxRecDepth 100000
set_option maxHeartbeats 2000000
theorem InCell_spec (W0 : World) (b : Int) (H : AH) : ACalls Tryz.prog W0 123 [.v (.int .i64 b)] H (fun v H' => v = .v (.int .i64 (if 0 ≤ b ∧ b ≤ 1 then 1 + b else -1)) ∧ H' = H) := by
  refine acallw Tryz.func123 rfl (by kernel_rfl) (by kernel_rfl) fun hc hw => ?_
  repeat' (first | simp -implicitDefEqProofs only [go_sem] | refine acond_ndec (fun _ => ?_) (fun _ => ?_) | simp -implicitDefEqProofs (disch := omega) only [wrap_in, u8_small, Int.tmod_eq_emod_of_nonneg, Int.tdiv_eq_ediv_of_nonneg] | refine ACallK.eq (l1In_ok _ _ _ _ _) ?_ | refine retK_eq ?_)
  all_goals first
    | (rw [if_pos (by omega)]; done)
    | (rw [if_neg (by omega)]; done)
theorem ownS_nil {α : Type} [Ob α] [Own α] [Flat α] {H : AH} {b : Nat} (h : H.blk b = some ⟨[], Ob.n α⟩) : OwnS H [b] (.sl b 0 0) ([] : List α) := OwnS.ofFlat (cs := []) h (by simp [encL]) (by simp) (by simp) (by simp) rfl
end Go.Proofs.YtipfnhfcoolhaaaGreat.Aw
end
section
namespace Go.Proofs.YtipfnhfcoolhaaaGreat.Aw
open Go Go.RowKit
set_option maxRecDepth 100000
set_option maxHeartbeats 2000000
theorem rowsTo_stop {keys raw : List Int} {i : Nat} (h : ¬ (i + 1) * 8 ≤ raw.length) : ∀ k, i ≤ k → rowsTo keys raw k = rowsTo keys raw i
  | 0, hk => by rw [Nat.le_zero.1 hk]
  | k + 1, hk => by
    rcases Nat.lt_or_ge i (k + 1) with h1 | h1
    · rw [rowsTo, if_neg (by omega)]; exact rowsTo_stop h k (by omega)
    · rw [show i = k + 1 by omega]
theorem rowsTo_length (keys raw : List Int) : ∀ i, (rowsTo keys raw i).length ≤ i
  | 0 => Nat.le_refl _
  | i + 1 => by
    rw [rowsTo]; split
    · have := addRow_length (rowsTo keys raw i) (rowFrom (keys.getD i 0) ((raw.drop (i * 8)).take 8)); have := rowsTo_length keys raw i; omega
    · have := rowsTo_length keys raw i; omega
theorem rowsTo_sorted (keys raw : List Int) : ∀ i, SortedK RowD.key (rowsTo keys raw i)
  | 0 => List.Pairwise.nil
  | i + 1 => by
    rw [rowsTo]; split
    · exact addRow_sorted (rowsTo_sorted keys raw i)
    · exact rowsTo_sorted keys raw i
theorem l11Rows_ok (W0 : World) (cj : List AV) (j : JobD) (H : AH) (hj : Ob.rep W0 H cj j) (hkl : j.keys.length ≤ 100) (hrl : j.raw.length ≤ 1000) : ACalls Tryz.prog W0 145 [.agg cj] H (fun u H' => NewS H H' u (rowsD j)) := by
  refine acallw Tryz.func145 rfl (by kernel_rfl) (by kernel_rfl) fun hc hw => ?_
  obtain ⟨vk, vr, rfl, hk, hr, f⟩ := JobD.out hj
  have hB1 := getD_I hk
  have hB2 := getD_I hr
  repeat' (first | simp -implicitDefEqProofs only [go_sem])
  refine acode_while (fun (p : Nat × AV) => [(1, .ptr H.nxt 0), (3, p.2), (4, .v (.int .i64 p.1))]) (fun p H' => H'.wf ∧ Sub (H.new [AV.v (.bool j.busy), AV.v (.int .i64 j.op.kind), AV.v (.string j.op.key), AV.v (.int .i64 j.op.what), AV.v (.int .i64 j.op.val), AV.v (.int .i64 j.serial), AV.v (.int .i64 j.pc), AV.v (.int .i64 j.k), AV.v (.int .i64 j.slot), AV.v (.int .i64 j.what), AV.v (.int .i64 j.e), AV.v (.int .i64 j.stamp), AV.v (.int .i64 j.old), AV.v (.int .i64 j.flips), AV.v (.int .i64 j.steps), AV.v (.int .i64 j.code), vk, vr] 18) H' ∧ p.1 ≤ j.keys.length ∧ ∃ S, OwnS H' S p.2 (rowsTo j.keys j.raw p.1) ∧ S.Nodup ∧ ∀ x ∈ S, H.nxt + 1 ≤ x) (fun p => j.keys.length - p.1) (0, .sl (H.nxt + 1) 0 0) ?_ ?_
  · exact ⟨(hw.new _ _).new _ _, (Sub.refl _).new (hw.new _ _) _ _, by simp only; omega, [H.nxt + 1], ownS_nil (by simp only [go_sem]; rfl), by simp, by simp⟩
  rintro ⟨i, u⟩ H' ⟨hw', hs, hi, S, ho, hn, hS⟩
  simp only at hi ho ⊢
  have hsH : Sub H H' := (Sub.new hw (Sub.refl _) _ _).trans hs
  have a0 := hs.2 H.nxt _ (blk_new_self _ _ _)
  have e0 : ¬ H.nxt = H'.nxt := fun h => by have := hw'.lt a0; omega
  have ea : ((i : Int) * 8).toNat = i * 8 := by omega
  have eb : (((i : Int) + 1) * 8).toNat = (i + 1) * 8 := by omega
  have ec : (i + 1) * 8 - i * 8 = 8 := by omega
  have hB3 : ∀ n, inI64 (((j.raw.drop (i * 8)).take 8).getD n 0) := fun n => by rw [drop_getD]; split; exact hB2 _; exact inI_z
  have hfB := rowFrom_B (j.keys.getD i 0) hB3
  repeat' (first | simp -implicitDefEqProofs only [go_sem] | (simp -implicitDefEqProofs only [a0, e0, if_false]) | (simp -implicitDefEqProofs (disch := omega) only [wrap_in]) | (refine abi_len_sl' hk ?_) | (refine abi_len_sl' hr ?_) | (refine ixI hk ?_) | (refine rdI hk ?_) | (refine asl_sl hr ?_) | (refine aslE_sl (l := i * 8) (h := (i + 1) * 8) hr (fun hsl => ?_); rw [ea, eb, ec] at hsl; simp only [ea, eb]) | (refine ACallK.eq (RowFrom_spec _ _ _ ((j.raw.drop (i * 8)).take 8) _ (hB1 i) (SlR.sub' (by assumption))) ?_; simp only [rowCells]) | (refine ACallK.eq (Quiet_spec _ _ (rowFrom (j.keys.getD i 0) ((j.raw.drop (i * 8)).take 8)) _ ⟨rfl, hfB⟩) ?_) | refine acond_dec (fun _ => ?_) (fun _ => ?_) | refine agrd_dec (fun _ => ?_) (fun _ => ?_) | refine agrd_ndec (fun _ => ?_) (fun _ => ?_) | ((with_reducible refine adraw_tree (.node [0, 1, 2, 3, 4, 5, 6, 7, 8, 9, 10, 11, 12] [(13, [], (.node [] [(14, [0, 1, 2, 3, 4, 5, 6, 7, 8, 9, 10, 11, 12], (.node [] [(15, [], (.node [] []))]))])), (14, [0, 1, 2, 3, 4, 5, 6, 7, 8, 9, 10, 11, 12], (.node [] [(13, [], (.node [] [(15, [], (.node [] []))]))]))]) ?_ ?_ ?_); (· kernel_rfl); (· decide +kernel)) | refine acond_split (fun _ => ?_) (fun _ => ?_) | (with_reducible refine And.intro ?_ ?_))
  all_goals first
    | (refine retK_one ⟨hsH, S, ?_, hn, fun x hx => by have := hS x hx; omega⟩
       unfold rowsD
       rw [rowsTo_stop (i := i) (by omega) _ (by omega)]
       exact ho)
    | (refine retK_one ⟨hsH, S, ?_, hn, fun x hx => by have := hS x hx; omega⟩
       unfold rowsD
       rw [show j.keys.length = i by omega]
       exact ho)
    | (rename_i hx1 hx2 hx3 hx4
       have e : rowsTo j.keys j.raw (i + 1) = putK RowD.key (rowsTo j.keys j.raw i) (rowFrom (j.keys.getD i 0) ((j.raw.drop (i * 8)).take 8)) := by
         rw [rowsTo, if_pos (by omega)]; unfold addRow; rw [if_neg (by rintro (h | h); exact hx3 h; rw [h] at hx4; exact absurd hx4 (by decide))]
       refine ACallK.of (l8Put_ok _ u (rowsTo j.keys j.raw i) (rowFrom (j.keys.getD i 0) ((j.raw.drop (i * 8)).take 8)) S _ (ho.sub ((Sub.refl _).new hw' _ _)) hn (Nat.le_trans (rowsTo_length _ _ i) (by omega)) hfB).cl ?_
       rintro u2 H2 ⟨⟨S2, h1, h2⟩, h3⟩
       have h4 := (h2.start (H := H') ((Sub.refl _).new hw' _ _)).sub (hw.new _ _) hs hS
       repeat' (first | simp -implicitDefEqProofs only [go_sem] | simp -implicitDefEqProofs (disch := omega) only [wrap_in, u8_small, Int.tmod_eq_emod_of_nonneg, Int.tdiv_eq_ediv_of_nonneg])
       exact back (i + 1, u2) ⟨h3.1, h4.1, by simp only; omega, S2, by simp only [e]; exact h1, h2.2.2.2, h4.2⟩ (by simp only; omega))
    | (rename_i hx1 hx2 hx3 hx4
       have e : rowsTo j.keys j.raw (i + 1) = rowsTo j.keys j.raw i := by rw [rowsTo, if_pos (by omega)]; unfold addRow; rw [if_pos (.inr (by simpa using hx4))]
       exact back (i + 1, u) ⟨hw'.new _ _, hs.trans ((Sub.refl _).new hw' _ _), by simp only; omega, S, by simp only [e]; exact ho.sub ((Sub.refl _).new hw' _ _), hn, hS⟩ (by simp only; omega))
    | (rename_i hx1 hx2 hx3
       have e : rowsTo j.keys j.raw (i + 1) = rowsTo j.keys j.raw i := by rw [rowsTo, if_pos (by omega)]; unfold addRow; rw [if_pos (.inl hx3)]
       exact back (i + 1, u) ⟨hw'.new _ _, hs.trans ((Sub.refl _).new hw' _ _), by simp only; omega, S, by simp only [e]; exact ho.sub ((Sub.refl _).new hw' _ _), hn, hS⟩ (by simp only; omega))
  all_goals trace_state
end Go.Proofs.YtipfnhfcoolhaaaGreat.Aw
end
section
namespace Go.Proofs.YtipfnhfcoolhaaaGreat.Aw
open Go Go.RowKit
set_option maxRecDepth 100000
set_option maxHeartbeats 2000000
theorem rowsOf_ok (W0 : World) (cj : List AV) (j : JobD) (H : AH) (hj : Ob.rep W0 H cj j) (hkl : j.keys.length ≤ 100) (hrl : j.raw.length ≤ 1000) : ACalls Tryz.prog W0 178 [.agg cj] H (fun u H' => NewS H H' u (rowsD j)) := by
  refine acallw Tryz.func178 rfl (by kernel_rfl) (by kernel_rfl) fun hc hw => ?_
  obtain ⟨vk, vr, rfl, hk, hr, f⟩ := JobD.out hj
  have hB1 := getD_I hk
  have hB2 := getD_I hr
  repeat' (first | simp -implicitDefEqProofs only [go_sem] | (refine abi_len_sl' hk ?_))
  refine acode_while (fun (p : Nat × AV) => [(1, .ptr H.nxt 0), (3, p.2), (9, vk), (10, .v (.int .i64 j.keys.length)), (11, .v (.int .i64 p.1))]) (fun p H' => H'.wf ∧ Sub (H.new [AV.v (.bool j.busy), AV.v (.int .i64 j.op.kind), AV.v (.string j.op.key), AV.v (.int .i64 j.op.what), AV.v (.int .i64 j.op.val), AV.v (.int .i64 j.serial), AV.v (.int .i64 j.pc), AV.v (.int .i64 j.k), AV.v (.int .i64 j.slot), AV.v (.int .i64 j.what), AV.v (.int .i64 j.e), AV.v (.int .i64 j.stamp), AV.v (.int .i64 j.old), AV.v (.int .i64 j.flips), AV.v (.int .i64 j.steps), AV.v (.int .i64 j.code), vk, vr] 18) H' ∧ p.1 ≤ j.keys.length ∧ ∃ S, OwnS H' S p.2 (rowsTo j.keys j.raw p.1) ∧ S.Nodup ∧ ∀ x ∈ S, H.nxt + 1 ≤ x) (fun p => j.keys.length - p.1) (0, .sl (H.nxt + 1) 0 0) ?_ ?_
  · exact ⟨(hw.new _ _).new _ _, (Sub.refl _).new (hw.new _ _) _ _, by simp only; omega, [H.nxt + 1], ownS_nil (by simp only [go_sem]; rfl), by simp, by simp⟩
  rintro ⟨i, u⟩ H' ⟨hw', hs, hi, S, ho, hn, hS⟩
  simp only at hi ho ⊢
  have hsH : Sub H H' := (Sub.new hw (Sub.refl _) _ _).trans hs
  have a0 := hs.2 H.nxt _ (blk_new_self _ _ _)
  have ea : ((i : Int) * 8).toNat = i * 8 := by omega
  have eb : ((i : Int) * 8 + 8).toNat = (i + 1) * 8 := by omega
  have ec : (i + 1) * 8 - i * 8 = 8 := by omega
  have hB3 : ∀ n, inI64 (((j.raw.drop (i * 8)).take 8).getD n 0) := fun n => by rw [drop_getD]; split; exact hB2 _; exact inI_z
  have hfB := rowFrom_B (j.keys.getD i 0) hB3
  repeat' (first | simp -implicitDefEqProofs only [go_sem] | (simp -implicitDefEqProofs only [a0]) | (simp -implicitDefEqProofs (disch := omega) only [wrap_in]) | (refine abi_len_sl' hr ?_) | (refine ixI hk ?_) | (refine rdI hk ?_) | (refine asl_sl hr ?_) | (refine aslE_sl (l := (i : Int) * 8) (h := (i : Int) * 8 + 8) hr (fun hsl => ?_); rw [ea, eb, ec] at hsl; simp only [ea, eb]) | (refine ACallK.eq (RowFrom_impl _ _ _ ((j.raw.drop (i * 8)).take 8) _ (hB1 i) (SlR.sub' (by assumption))) ?_) | refine acond_dec (fun _ => ?_) (fun _ => ?_))
  all_goals first
    | (have e : rowsTo j.keys j.raw (i + 1) = addRow (rowsTo j.keys j.raw i) (rowFrom (j.keys.getD i 0) ((j.raw.drop (i * 8)).take 8)) := by
         rw [rowsTo, if_pos (by omega)]
       refine ACallK.of (put_ok _ u (rowsTo j.keys j.raw i) (rowFrom (j.keys.getD i 0) ((j.raw.drop (i * 8)).take 8)) S _ ho hn (rowsTo_sorted _ _ i) (Nat.le_trans (rowsTo_length _ _ i) (by omega)) hfB).cl ?_
       rintro u2 H2 ⟨⟨S2, h1, h2⟩, h3⟩
       have h4 := h2.sub (hw.new _ _) hs hS
       repeat' (first | simp -implicitDefEqProofs only [go_sem] | simp -implicitDefEqProofs (disch := omega) only [wrap_in, u8_small, Int.tmod_eq_emod_of_nonneg, Int.tdiv_eq_ediv_of_nonneg])
       exact back (i + 1, u2) ⟨h3.1, h4.1, by simp only; omega, S2, by simp only [e]; exact h1, h2.2.2.2, h4.2⟩ (by simp only; omega))
    | (have e : rowsTo j.keys j.raw (i + 1) = rowsTo j.keys j.raw i := by rw [rowsTo, if_neg (by omega)]
       exact back (i + 1, u) ⟨hw', hs, by simp only; omega, S, by simp only [e]; exact ho, hn, hS⟩ (by simp only; omega))
    | (obtain rfl : i = j.keys.length := by omega
       exact retK_one ⟨hsH, S, ho, hn, fun x hx => by have := hS x hx; omega⟩)
    | trace_state
end Go.Proofs.YtipfnhfcoolhaaaGreat.Aw
end
section
namespace Go.Proofs.YtipfnhfcoolhaaaGreat.Aw
open Go Go.RowKit
set_option maxRecDepth 100000
set_option maxHeartbeats 2000000
attribute [-go_sem] wr_eq
theorem own_j0 (H : AH) : Own.own H ([] ++ []) [.v (.bool false), .v (.int .i64 0), .v (.string ⟨#[]⟩), .v (.int .i64 0), .v (.int .i64 0), .v (.int .i64 0), .v (.int .i64 0), .v (.int .i64 0), .v (.int .i64 0), .v (.int .i64 0), .v (.int .i64 0), .v (.int .i64 0), .v (.int .i64 0), .v (.int .i64 0), .v (.int .i64 0), .v (.int .i64 0), .v (.slice none 0 0), .v (.slice none 0 0)] job0 := ⟨_, _, [], [], rfl, rfl, inI_z, by show (0 : Nat) ≤ big; exact Nat.zero_le _, inI_z, inI_z, inI_z, inI_z, inI_z, inI_z, inI_z, inI_z, inI_z, inI_z, inI_z, inI_z, inI_z, ownS_none _, ownS_none _⟩
theorem mv11_ok (W0 : World) (bw bj oj t : Nat) (vj vt : AV) (pre post : List AV) (w : WorldD) (j : JobD) (S : List Nat) (H : AH) (hp : MvP H S bw bj oj t vj vt pre post w j) (he : 0 ≤ j.e ∧ j.e ≤ 281474976710655) (e : j.pc = 11) (hkl : j.keys.length ≤ 100) (hrl : j.raw.length ≤ 1000) :
    ACalls Tryz.prog W0 87 [mvA bw bj oj t] H (fun r H' => r = .tup [] ∧ MvR H S bw bj vj vt pre post (tellD w t j) H') := by
  refine acallw Tryz.func87 rfl (by kernel_rfl) (by kernel_rfl) fun hc hw => ?_
  have hp0 := hp
  obtain ⟨⟨hn, vc, vl, cj, Sc, Sl, Sj, rfl, bB, jB, oc, ol, oj_⟩, hll, hj, ht, hnw, htt, hpl⟩ := hp
  obtain ⟨vk, vr, Sk, Sr, rfl, rfl, f0, f1, f2, f3, f4, f5, f6, f7, f8, f9, f10, f11, f12, f13, f14, f15, f16⟩ := oj_
  have lc := oc.leaf; have cc := oc.one
  have ll := ol.leaf; have cl := ol.one
  have lk := f15.leaf; have ck := f15.one
  have lr := f16.leaf; have cr := f16.one
  obtain ⟨lj, cj⟩ := hj
  obtain ⟨lt, ct⟩ := ht
  have hm0 : Mv H (bw :: bj :: (Sc ++ (Sl ++ (Sk ++ Sr)))) bw bj vj vt pre post w j := ⟨hn, vc, vl, _, Sc, Sl, Sk ++ Sr, rfl, bB, jB, oc, ol, vk, vr, Sk, Sr, rfl, rfl, f0, f1, f2, f3, f4, f5, f6, f7, f8, f9, f10, f11, f12, f13, f14, f15, f16⟩
  have hnS : ∀ b ∈ bw :: bj :: (Sc ++ (Sl ++ (Sk ++ Sr))), b < H.nxt := fun b hb => hw.lt' (hm0.isin b hb)
  obtain ⟨hnw1, hnj1, hne, hne', hU, nwU, njU, mC, mL, mK, mR, z0, z1, z2, y0, z0', y0', y1, y2⟩ := mvf hn hnS
  simp only [wcs] at bB
  simp only [List.cons_append, List.nil_append] at jB
  have et : j.e.tmod 2 = j.e % 2 := Int.tmod_eq_emod_of_nonneg he.1
  have d : ∀ x, decide (j.pc = x) = decide ((11 : Int) = x) := fun x => by rw [e]
  have hj0 : Own.own H (Sk ++ Sr) [AV.v (Value.bool j.busy), AV.v (Value.int IntKind.i64 j.op.kind), AV.v (Value.string j.op.key), AV.v (Value.int IntKind.i64 j.op.what), AV.v (Value.int IntKind.i64 j.op.val), AV.v (Value.int IntKind.i64 j.serial), AV.v (Value.int IntKind.i64 j.pc), AV.v (Value.int IntKind.i64 j.k), AV.v (Value.int IntKind.i64 j.slot), AV.v (Value.int IntKind.i64 j.what), AV.v (Value.int IntKind.i64 j.e), AV.v (Value.int IntKind.i64 j.stamp), AV.v (Value.int IntKind.i64 j.old), AV.v (Value.int IntKind.i64 j.flips), AV.v (Value.int IntKind.i64 j.steps), AV.v (Value.int IntKind.i64 j.code), vk, vr] j := ⟨vk, vr, Sk, Sr, rfl, rfl, f0, f1, f2, f3, f4, f5, f6, f7, f8, f9, f10, f11, f12, f13, f14, f15, f16⟩
  repeat' (first | simp -implicitDefEqProofs only [go_sem] | (simp -implicitDefEqProofs (disch := omega) only [bB, jB, hne, hne', z0, z1, z2, y0, y1, y2, z0', y0', blk_set_self, wr_pre hpl, wr_pre0 hpl, drop_pre hpl, drop_pre0 hpl, lc, cc, ll, cl, lk, ck, lr, cr, lj, cj, lt, ct, wr_succ, wr_zero, wr_none, set_set, Bool.and_self, if_false, List.length_append, List.length_cons, d, et, Int.reduceEq, decide_true, decide_false, if_true, Bool.false_eq_true]) | (rw [if_pos (by omega)]) | ((with_reducible refine adraw_plan [(0, []), (1, []), (2, []), (3, []), (4, []), (5, []), (6, []), (7, []), (8, []), (9, []), (10, []), (11, []), (12, []), (13, []), (14, []), (15, []), (16, [0, 1, 2, 3, 4, 5, 6, 7, 8, 9, 10, 11, 12]), (17, []), (18, [])] ?_ ?_ ?_); (· kernel_rfl); (· decide +kernel)))
  refine ACallK.of (rowsOf_ok _ _ j _ (Ob.sub (by exact by repeat (first | exact Sub.refl _ | assumption | refine Sub.new hc.1 ?_ _ _ | refine Sub.set hc.1 ?_ (by omega) _ | refine Sub.trans ?_ (by assumption))) (Own.rep hj0)) hkl hrl).cl ?_
  rintro u H1 ⟨⟨s1, S1, o1, F1⟩, c1⟩
  have z1 : Sub H H1 := Sub.trans (by exact by repeat (first | exact Sub.refl _ | assumption | refine Sub.new hc.1 ?_ _ _ | refine Sub.set hc.1 ?_ (by omega) _ | refine Sub.trans ?_ (by assumption))) s1
  have b0 := z1.2 bw _ bB
  have b1 := z1.2 bj _ jB
  have b2 := s1.2 H.nxt _ (by simp only [go_sem]; rfl)
  have l1 := o1.leaf; have p1 := o1.one
  have n1 := s1.1; simp only [go_sem] at n1
  repeat' (first | simp -implicitDefEqProofs only [go_sem] | (simp -implicitDefEqProofs (disch := omega) only [b0, b1, b2, bB, jB, hne, hne', z0, z1, z2, y0, y1, y2, z0', y0', blk_set_self, wr_pre hpl, wr_pre0 hpl, drop_pre hpl, drop_pre0 hpl, lc, cc, ll, cl, lk, ck, lr, cr, lj, cj, lt, ct, wr_succ, wr_zero, wr_none, set_set, Bool.and_self, if_false, List.length_append, List.length_cons, l1, p1, d, et, Int.reduceEq, decide_true, decide_false, if_true, Bool.false_eq_true]) | (rw [if_pos (by omega)]) | fail)
  have hF : ∀ b ∈ S1, H.nxt ≤ b := fun b hb => by have := F1.2 b hb; simp only [go_sem] at this; omega
  have hnd : ((bw :: bj :: (Sc ++ (Sl ++ (Sk ++ Sr)))) ++ S1).Nodup := nd_lt hn F1.1 hnS hF
  have hlog := log_ok W0 bw bj oj t vj vt pre post w j (bw :: bj :: (Sc ++ (Sl ++ (Sk ++ Sr)))) S1 _ ⟨3, 0, 0, 0, op0, j.code, -1, j.steps, j.flips, rowsD j⟩ _ (hp0.sub z1) (EvD.own_mk (by simp only [inI64]; omega) inI_z inI_z inI_z inI_z (by show (0 : Nat) ≤ big; exact Nat.zero_le _) inI_z inI_z f14 (by simp only [inI64]; omega) f13 f12 o1) hnd
  refine ACallK.mvr (H0 := H1) hlog c1.1 (Sub.refl _) (fun b hb => (List.mem_append.1 hb).elim (fun h => Nat.lt_of_lt_of_le (hnS b h) z1.1) (fun h => c1.1.lt' (o1.isin b h))) ?_
  intro H2 S2 w2 hs2 g2 kq m2 hS2
  have hm2 := hs2
  obtain ⟨hn2, vc2, vl2, cj2, Sc2, Sl2, Sj2, rfl, bB2, jB2, oc2, ol2, oj2⟩ := hs2
  obtain ⟨vk2, vr2, Sk2, Sr2, rfl, rfl, f_20, f_21, f_22, f_23, f_24, f_25, f_26, f_27, f_28, f_29, f_210, f_211, f_212, f_213, f_214, f_215, f_216⟩ := oj2
  have lc2 := oc2.leaf; have cc2 := oc2.one
  have ll2 := ol2.leaf; have cl2 := ol2.one
  have lk2 := f_215.leaf; have ck2 := f_215.one
  have lr2 := f_216.leaf; have cr2 := f_216.one
  simp only [wcs] at bB2
  simp only [List.cons_append, List.nil_append] at jB2
  have a2 := kq H.nxt _ (fun hm => (List.mem_append.1 hm).elim (fun h => by have := hnS _ h; omega) (fun h => by have := F1.2 _ h; simp only [go_sem] at this; omega)) b2
  repeat' (first | simp -implicitDefEqProofs only [go_sem] | (simp -implicitDefEqProofs (disch := omega) only [a2, bB2, jB2, hne, hne', z0, z1, z2, y0, y1, y2, z0', y0', blk_set_self, wr_pre hpl, wr_pre0 hpl, drop_pre hpl, drop_pre0 hpl, lc2, cc2, ll2, cl2, lk2, ck2, lr2, cr2, lj, cj, lt, ct, wr_succ, wr_zero, wr_none, set_set, Bool.and_self, if_false, List.length_append, List.length_cons]) | (with_reducible refine And.intro (by omega) ?_) | fail)
  have gA : Upd (bw :: bj :: (Sc ++ (Sl ++ (Sk ++ Sr)))) H H2 (bw :: bj :: (Sc2 ++ (Sl2 ++ (Sk2 ++ Sr2)))) := by
    refine ⟨Nat.le_trans z1.1 g2.1, fun b B hb hB => g2.2.1 b B (fun hm => (List.mem_append.1 hm).elim hb (fun h => by have := hF b h; have := hw.lt hB; omega)) (z1.2 b B hB), fun b hb => ?_, g2.2.2.2⟩
    rcases g2.2.2.1 b hb with h | h
    · exact (List.mem_append.1 h).imp id (hF b)
    · exact .inr (Nat.le_trans z1.1 h)
  have gB : Upd (bw :: bj :: (Sc ++ (Sl ++ (Sk ++ Sr)))) H H2 (bw :: bj :: (Sc2 ++ (Sl2 ++ ([] ++ [])))) := gA.less (fun b hb => by simp only [List.mem_cons, List.mem_append, List.not_mem_nil, or_false] at hb ⊢; grind) (by have := hn2; simp only [List.nodup_cons, List.nodup_append, List.mem_cons, List.mem_append, List.nodup_nil, List.not_mem_nil, or_false, List.append_nil] at this ⊢; grind)
  refine retK_nil ⟨rfl, MvR.fin (w' := (tellD w t j).1) (j' := job0) w2 hm0.in2 gB oc2 ol2 (own_j0 _) hw (fun b h1 h2 _ => ?_) (Nat.le_refl _) ?_ ?_⟩
  · simp only [blk_set, if_neg h2]
  · simp only [blk_set, hne, if_false]; exact bB2
  · exact blk_set_self _ _ _
theorem mvF_ok (W0 : World) (bw bj oj t : Nat) (vj vt : AV) (pre post : List AV) (w : WorldD) (j : JobD) (S : List Nat) (H : AH) (hp : MvP H S bw bj oj t vj vt pre post w j) (hok : cellsOk w.cells = true) (he : 0 ≤ j.e ∧ j.e ≤ 281474976710655) (e : 12 ≤ j.pc ∧ j.pc ≤ 15) (hk4 : j.pc = 14 → 0 ≤ j.k ∧ j.k ≤ 3) (hk5 : j.pc = 15 → 0 ≤ j.k ∧ j.k ≤ 31) (hkl : j.keys.length ≤ 100) (hrl : j.raw.length ≤ 100) :
    ACalls Tryz.prog W0 87 [mvA bw bj oj t] H (fun r H' => r = .tup [] ∧ MvR H S bw bj vj vt pre post (flushD w t j) H') := by
  refine acallw Tryz.func87 rfl (by kernel_rfl) (by kernel_rfl) fun hc hw => ?_
  have hp0 := hp
  obtain ⟨⟨hn, vc, vl, cj, Sc, Sl, Sj, rfl, bB, jB, oc, ol, oj_⟩, hll, hj, ht, hnw, htt, hpl⟩ := hp
  obtain ⟨vk, vr, Sk, Sr, rfl, rfl, f0, f1, f2, f3, f4, f5, f6, f7, f8, f9, f10, f11, f12, f13, f14, f15, f16⟩ := oj_
  have lc := oc.leaf; have cc := oc.one
  have ll := ol.leaf; have cl := ol.one
  have lk := f15.leaf; have ck := f15.one
  have lr := f16.leaf; have cr := f16.one
  obtain ⟨lj, cj⟩ := hj
  obtain ⟨lt, ct⟩ := ht
  have hm0 : Mv H (bw :: bj :: (Sc ++ (Sl ++ (Sk ++ Sr)))) bw bj vj vt pre post w j := ⟨hn, vc, vl, _, Sc, Sl, Sk ++ Sr, rfl, bB, jB, oc, ol, vk, vr, Sk, Sr, rfl, rfl, f0, f1, f2, f3, f4, f5, f6, f7, f8, f9, f10, f11, f12, f13, f14, f15, f16⟩
  have hnS : ∀ b ∈ bw :: bj :: (Sc ++ (Sl ++ (Sk ++ Sr))), b < H.nxt := fun b hb => hw.lt' (hm0.isin b hb)
  obtain ⟨hnw1, hnj1, hne, hne', hU, nwU, njU, mC, mL, mK, mR, z0, z1, z2, y0, z0', y0', y1, y2⟩ := mvf hn hnS
  simp only [wcs] at bB
  simp only [List.cons_append, List.nil_append] at jB
  have et : j.e.tmod 2 = j.e % 2 := Int.tmod_eq_emod_of_nonneg he.1
  have d : ∀ x : Int, x < 12 → decide (j.pc = x) = false := fun x hx => decide_eq_false (by omega)
  repeat' (first | simp -implicitDefEqProofs only [go_sem] | (simp -implicitDefEqProofs (disch := omega) only [bB, jB, hne, hne', z0, z1, z2, y0, y1, y2, z0', y0', blk_set_self, wr_pre hpl, wr_pre0 hpl, drop_pre hpl, drop_pre0 hpl, lc, cc, ll, cl, lk, ck, lr, cr, lj, cj, lt, ct, wr_succ, wr_zero, wr_none, set_set, Bool.and_self, if_false, List.length_append, List.length_cons, d, et, Int.reduceEq, decide_true, decide_false, if_true, Bool.false_eq_true]) | (rw [if_pos (by omega)]) | fail)
  have hfl : ∀ H1, Sub H H1 → ACalls Tryz.prog W0 179 [mvA bw bj oj t, .v (.int .i64 (j.e % 2))] H1 (fun r H' => r = .tup [] ∧ MvR H1 (bw :: bj :: (Sc ++ (Sl ++ (Sk ++ Sr)))) bw bj vj vt pre post (flushD w t j) H') := fun H1 hs => by
    rcases (by omega : j.pc = 12 ∨ j.pc = 13 ∨ j.pc = 14 ∨ j.pc = 15) with h | h | h | h
    · exact fl12_ok W0 bw bj oj t vj vt pre post w j _ H1 (hp0.sub hs) hok he h
    · exact fl13_ok W0 bw bj oj t vj vt pre post w j _ H1 (hp0.sub hs) hok he h
    · exact fl14_ok W0 bw bj oj t vj vt pre post w j _ H1 (hp0.sub hs) hok he h (hk4 h) hkl
    · exact fl15_ok W0 bw bj oj t vj vt pre post w j _ H1 (hp0.sub hs) hok he h (hk5 h) hrl
  refine ACallK.mvr (H0 := H) (hfl _ (by exact by repeat (first | exact Sub.refl _ | assumption | refine Sub.new hc.1 ?_ _ _ | refine Sub.set hc.1 ?_ (by omega) _ | refine Sub.trans ?_ (by assumption)))) hw (by exact by repeat (first | exact Sub.refl _ | assumption | refine Sub.new hc.1 ?_ _ _ | refine Sub.set hc.1 ?_ (by omega) _ | refine Sub.trans ?_ (by assumption))) hnS ?_
  intro H2 S2 w2 m2 g2 _ _ _
  repeat' (first | simp -implicitDefEqProofs only [go_sem])
  exact retK_nil ⟨rfl, S2, m2, g2⟩
theorem move_ok (W0 : World) (bw bj oj t : Nat) (vj vt : AV) (pre post : List AV) (w : WorldD) (j : JobD) (S : List Nat) (H : AH) (hp : MvP H S bw bj oj t vj vt pre post w j) (hok : cellsOk w.cells = true) (hj : jobOk j = true) :
    ACalls Tryz.prog W0 87 [mvA bw bj oj t] H (fun r H' => r = .tup [] ∧ MvR H S bw bj vj vt pre post (moveD w t j) H') := by
  obtain ⟨h1, h2, h3, hs, hw3, he, h4⟩ := (jobOk_iff' j).1 hj
  rw [countOk_eq] at h3
  have hop := opOk_cases h1
  unfold moveD
  by_cases p11 : j.pc = 11
  · rw [if_pos p11]; exact mv11_ok W0 bw bj oj t vj vt pre post w j S H hp he p11 (by omega) (by omega)
  rw [if_neg p11]
  rcases hop with ho | ho | ho
  · have hpc : j.pc = 0 ∨ j.pc = 1 := by unfold placeOk at h2; rw [if_neg (by omega), if_pos ho.1] at h2; omega
    have hk : 0 ≤ j.k ∧ j.k ≤ 3 := by unfold countP at h3; rw [if_pos hpc] at h3; exact h3
    rcases hpc with e | e
    · rw [if_pos e]; exact mv0_ok W0 bw bj oj t vj vt pre post w j S H hp hok he e ho.2.1 hk (.inl ho.1)
    · rw [if_neg (by omega), if_pos e]; exact mv1_ok W0 bw bj oj t vj vt pre post w j S H hp hok he e ho.2.1 hk
  · have hpc : j.pc = 0 ∨ (2 ≤ j.pc ∧ j.pc ≤ 10) := by unfold placeOk at h2; rw [if_neg (by omega), if_neg (by omega)] at h2; omega
    have hd : DataP w j := ⟨hok, he, hs, ho.2.2⟩
    rcases hpc with e | e
    · have hk : 0 ≤ j.k ∧ j.k ≤ 3 := by unfold countP at h3; rw [if_pos (.inl e)] at h3; exact h3
      rw [if_pos e]; exact mv0_ok W0 bw bj oj t vj vt pre post w j S H hp hok he e ho.2.1 hk (.inr ho.1)
    · rw [if_neg (by omega), if_neg (by omega), if_pos (by omega)]
      rcases (by omega : j.pc = 2 ∨ j.pc = 3 ∨ j.pc = 4 ∨ j.pc = 5 ∨ j.pc = 6 ∨ j.pc = 7 ∨ j.pc = 8 ∨ j.pc = 9 ∨ j.pc = 10) with e | e | e | e | e | e | e | e | e
      · exact mv2_ok W0 bw bj oj t vj vt pre post w j S H hp hok he e
      · exact mv3_ok W0 bw bj oj t vj vt pre post w j S H hp hok he e
      · exact mv4_ok W0 bw bj oj t vj vt pre post w j S H hp hok he e
      · exact mv5_ok W0 bw bj oj t vj vt pre post w j S H hp hok he e hd
      · exact mv6_ok W0 bw bj oj t vj vt pre post w j S H hp hok he e hd
      · exact mv7_ok W0 bw bj oj t vj vt pre post w j S H hp hok he e hd
      · exact mv8_ok W0 bw bj oj t vj vt pre post w j S H hp hok he e hd (by unfold countP at h3; rw [if_neg (by omega), if_pos e] at h3; exact h3)
      · exact mv9_ok W0 bw bj oj t vj vt pre post w j S H hp hok he e
      · exact mv10_ok W0 bw bj oj t vj vt pre post w j S H hp hok he e
  · have hpc : 12 ≤ j.pc ∧ j.pc ≤ 15 := by unfold placeOk at h2; rw [if_pos ho] at h2; omega
    rw [if_neg (by omega), if_neg (by omega), if_neg (by omega)]
    refine mvF_ok W0 bw bj oj t vj vt pre post w j S H hp hok he hpc (fun e => ?_) (fun e => ?_) (by omega) (by omega)
    · unfold countP at h3; rw [if_neg (by omega), if_neg (by omega), if_pos e] at h3; omega
    · unfold countP at h3; rw [if_neg (by omega), if_neg (by omega), if_neg (by omega), if_pos e] at h3; omega
end Go.Proofs.YtipfnhfcoolhaaaGreat.Aw
end
section
namespace Go.Proofs.YtipfnhfcoolhaaaGreat.Aw
open Go Go.RowKit
set_option maxRecDepth 100000
set_option maxHeartbeats 2000000
attribute [-go_sem] wr_eq
theorem CloneOp_ok (W0 : World) (v : AV) (a : List OpD) (H : AH) (ha : SlR W0 H v a) (hl : a.length ≤ 1000000000) : ACalls Tryz.prog W0 234 [v] H (fun u H' => NewS H H' u a) := by
  refine acallw Tryz.func234 rfl (by kernel_rfl) (by kernel_rfl) fun hc hw => ?_
  rcases ha.cases with ⟨b, o, n, rfl⟩ | ⟨n, c, rfl, rfl⟩ | ⟨ad, n, c, rfl⟩
  · repeat' (first | simp -implicitDefEqProofs only [go_sem] | (refine app_new ha (by repeat (first | exact Sub.refl _ | assumption | refine Sub.new (by assumption) ?_ _ _ | refine Sub.kill_new (by assumption) ?_ _ _ | refine Sub.trans ?_ (by assumption))) (by simp only [go_sem]) (Nat.le_refl _) hw ?_; intro H' hs hN) | fail)
    exact retK_one hN
  · repeat' (first | simp -implicitDefEqProofs only [go_sem] | (simp -implicitDefEqProofs only [Option.isNone_none, Option.isNone_some, go_sem]))
    exact retK_one ⟨Sub.refl _, [], .inl ⟨rfl, rfl, rfl⟩, Fresh.nil _⟩
  · repeat' (first | simp -implicitDefEqProofs only [go_sem] | (simp -implicitDefEqProofs only [Option.isNone_none, Option.isNone_some, go_sem]) | (refine app_new ha (by repeat (first | exact Sub.refl _ | assumption | refine Sub.new (by assumption) ?_ _ _ | refine Sub.kill_new (by assumption) ?_ _ _ | refine Sub.trans ?_ (by assumption))) (by simp only [go_sem]) (Nat.le_refl _) hw ?_; intro H' hs hN) | fail)
    exact retK_one hN
theorem l10Queues_ok (W0 : World) (v : AV) (l : List QueueD) (H : AH) (hx : SlR W0 H v l) (hl : l.length ≤ 10000000) (hr : ∀ q ∈ l, q.ops.length ≤ 1000000000) : ACalls Tryz.prog W0 143 [v] H (fun u H' => NewS H H' u l) := by
  refine acallw Tryz.func143 rfl (by kernel_rfl) (by kernel_rfl) fun hc hw => ?_
  repeat' (first | simp -implicitDefEqProofs only [go_sem])
  refine acode_while (fun (p : Nat × AV) => [(0, v), (3, p.2), (4, .v (.int .i64 p.1))]) (fun p H' => H'.wf ∧ Sub H H' ∧ p.1 ≤ l.length ∧ ∃ S, OwnS H' S p.2 (l.take p.1) ∧ S.Nodup ∧ ∀ x ∈ S, H.nxt ≤ x) (fun p => l.length - p.1) (0, .sl H.nxt 0 0) ?_ ?_
  · exact ⟨hw.new _ _, by repeat (first | exact Sub.refl _ | assumption | refine Sub.new (by assumption) ?_ _ _ | refine Sub.kill_new (by assumption) ?_ _ _ | refine Sub.trans ?_ (by assumption)), by simp only; omega, [H.nxt], ownNil (by simp only [go_sem]; rfl), by simp, by simp⟩
  rintro ⟨i, u⟩ H' ⟨hw', hs, hi, S, ho, hn, hS⟩
  simp only at hi ho ⊢
  have hlt : ∀ b ∈ S, b < H'.nxt := fun b hb => hw'.lt' (ho.isin b hb)
  rcases Nat.lt_or_ge i l.length with hlt2 | hge
  · have hlen : (l.take i).length ≤ 10000000 := by simp; omega
    have hri := hr _ (List.getElem_mem hlt2)
    repeat' (first | simp -implicitDefEqProofs only [go_sem] | (refine aK_slw (by assumption) hlt2 ?_; intro cs hcs; have hcs2 := hcs; obtain ⟨vr, rfl, q0⟩ := hcs2) | refine acond_decT (by omega) ?_ | refine abi_len_sl' (by assumption) ?_ | refine aixs_sln (by assumption) ?_ | refine afa_sl (by assumption) ?_ | fail)
    refine app_newW (q0.sub hs) ((Sub.refl _).new hw' _ _) (by simp only [go_sem]) (Nat.le_refl _) hw' (hw'.new _ _) ?_
    intro u2 H2 S2 hw2 s2 w2 F2
    have hF : ∀ b ∈ S2, H'.nxt ≤ b := fun b hb => F2.2 b hb
    repeat' (first | simp -implicitDefEqProofs only [go_sem] | (simp -implicitDefEqProofs only [w2.one, w2.leaf, set_set, wr_succ, wr_zero, wr_none, go_sem]))
    refine app_one (x := l[i]) (S2 := S2) (ho.sub (s2.trans ((Sub.refl _).new hw2 _ _))) (Own.sub ⟨u2, S2, rfl, rfl, w2⟩ ((Sub.refl _).new hw2 _ _)) (nd_lt hn F2.1 hlt hF) (hw2.new _ _) (by simp only [go_sem]) (fun hm => absurd (hlt _ hm) (by have := s2.1; omega)) ?_
    intro H3 S3 v3 w3 o3 u3 l3
    have h4 := u3.sub hw (hs.trans (s2.trans ((Sub.refl _).new hw2 _ _))) (fun b hb => (List.mem_append.1 hb).elim (hS b) (fun hb => Nat.le_trans hs.1 (hF b hb)))
    repeat' (first | simp -implicitDefEqProofs only [go_sem] | simp -implicitDefEqProofs (disch := omega) only [wrap_in, u8_small, Int.tmod_eq_emod_of_nonneg, Int.tdiv_eq_ediv_of_nonneg])
    exact back (i + 1, v3) ⟨w3, h4.1, by simp only; omega, S3, by simp only; rw [List.take_succ_eq_append_getElem hlt2]; exact o3, u3.2.2.2, h4.2⟩ (by simp only; omega)
  · obtain rfl : i = l.length := by omega
    rw [List.take_length] at ho
    repeat' (first | simp -implicitDefEqProofs only [go_sem] | refine acond_decF (by omega) ?_ | refine abi_len_sl' (by assumption) ?_ | fail)
    exact retK_one ⟨hs, S, ho, hn, hS⟩
theorem queuesCopy_ok (W0 : World) (v : AV) (l : List QueueD) (H : AH) (hx : SlR W0 H v l) (hl : l.length ≤ 10000000) (hr : ∀ q ∈ l, q.ops.length ≤ 1000000000) : ACalls Tryz.prog W0 154 [v] H (fun u H' => NewS H H' u l) := by
  refine acallw Tryz.func154 rfl (by kernel_rfl) (by kernel_rfl) fun hc hw => ?_
  repeat' (first | simp -implicitDefEqProofs only [go_sem] | (refine abi_len_sl' hx ?_))
  refine acode_while (fun (p : Nat × AV) => [(3, p.2), (7, v), (8, .v (.int .i64 l.length)), (9, .v (.int .i64 p.1))]) (fun p H' => H'.wf ∧ Sub H H' ∧ p.1 ≤ l.length ∧ ∃ S, OwnS H' S p.2 (l.take p.1) ∧ S.Nodup ∧ ∀ x ∈ S, H.nxt ≤ x) (fun p => l.length - p.1) (0, .sl H.nxt 0 0) ?_ ?_
  · exact ⟨hw.new _ _, by repeat (first | exact Sub.refl _ | assumption | refine Sub.new (by assumption) ?_ _ _ | refine Sub.kill_new (by assumption) ?_ _ _ | refine Sub.trans ?_ (by assumption)), by simp only; omega, [H.nxt], ownNil (by simp only [go_sem]; rfl), by simp, by simp⟩
  rintro ⟨i, u⟩ H' ⟨hw', hs, hi, S, ho, hn, hS⟩
  simp only at hi ho ⊢
  have hlt : ∀ b ∈ S, b < H'.nxt := fun b hb => hw'.lt' (ho.isin b hb)
  rcases Nat.lt_or_ge i l.length with hlt2 | hge
  · have hlen : (l.take i).length ≤ 10000000 := by simp; omega
    have hri := hr _ (List.getElem_mem hlt2)
    repeat' (first | simp -implicitDefEqProofs only [go_sem] | (refine aK_slw (by assumption) hlt2 ?_; intro cs hcs; have hcs2 := hcs; obtain ⟨vr, rfl, q0⟩ := hcs2) | (simp -implicitDefEqProofs only [wr_succ, wr_zero, wr_none, set_set, go_sem]) | refine acond_decT (by omega) ?_ | refine aixs_sln (by assumption) ?_ | rw [SlR.leaf (by assumption)] | fail)
    refine ACallK.of (CloneOp_ok _ vr l[i].ops _ (q0.sub (by repeat (first | exact Sub.refl _ | assumption | refine Sub.new (by assumption) ?_ _ _ | refine Sub.kill_new (by assumption) ?_ _ _ | refine Sub.trans ?_ (by assumption)))) hri).cl ?_
    rintro u2 H2 ⟨⟨s2, S2, w2, F2⟩, c2⟩
    have hw2 := c2.1
    have hF : ∀ b ∈ S2, H'.nxt ≤ b := fun b hb => Nat.le_trans (Nat.le_succ _) (F2.2 b hb)
    have sA : Sub H' H2 := ((Sub.refl _).new hw' _ _).trans s2
    repeat' (first | simp -implicitDefEqProofs only [go_sem] | (simp -implicitDefEqProofs only [w2.one, w2.leaf, set_set, wr_succ, wr_zero, wr_none, go_sem]))
    refine app_one (x := l[i]) (S2 := S2) (ho.sub (sA.trans ((Sub.refl _).new hw2 _ _))) (Own.sub ⟨u2, S2, rfl, rfl, w2⟩ ((Sub.refl _).new hw2 _ _)) (nd_lt hn F2.1 hlt hF) (hw2.new _ _) (by simp only [go_sem]) (fun hm => absurd (hlt _ hm) (by have := sA.1; omega)) ?_
    intro H3 S3 v3 w3 o3 u3 l3
    have h4 := u3.sub hw (hs.trans (sA.trans ((Sub.refl _).new hw2 _ _))) (fun b hb => (List.mem_append.1 hb).elim (hS b) (fun hb => Nat.le_trans hs.1 (hF b hb)))
    repeat' (first | simp -implicitDefEqProofs only [go_sem] | simp -implicitDefEqProofs (disch := omega) only [wrap_in, u8_small, Int.tmod_eq_emod_of_nonneg, Int.tdiv_eq_ediv_of_nonneg])
    exact back (i + 1, v3) ⟨w3, h4.1, by simp only; omega, S3, by simp only; rw [List.take_succ_eq_append_getElem hlt2]; exact o3, u3.2.2.2, h4.2⟩ (by simp only; omega)
  · obtain rfl : i = l.length := by omega
    rw [List.take_length] at ho
    repeat' (first | simp -implicitDefEqProofs only [go_sem] | refine acond_decF (by omega) ?_ | fail)
    exact retK_one ⟨hs, S, ho, hn, hS⟩
end Go.Proofs.YtipfnhfcoolhaaaGreat.Aw
end
section
namespace Go.Proofs.YtipfnhfcoolhaaaGreat.Aw
open Go Go.RowKit
set_option maxRecDepth 100000
set_option maxHeartbeats 2000000
attribute [-go_sem] wr_eq
structure WB (w : WorldD) : Prop where
  cl : w.cells.length ≤ 1000000000
  jl : w.jobs.length ≤ 10000000
  jk : ∀ j ∈ w.jobs, j.keys.length ≤ 1000000000 ∧ j.raw.length ≤ 1000000000
  tl : w.todo.length ≤ 10000000
  tq : ∀ q ∈ w.todo, q.ops.length ≤ 1000000000
  ll : w.log.length ≤ 10000000
  lr : ∀ e ∈ w.log, e.rows.length ≤ 1000000000
theorem l10Job_ok (W0 : World) (cs : List AV) (j : JobD) (H : AH) (hj : Ob.rep W0 H cs j) (hk : j.keys.length ≤ 1000000000 ∧ j.raw.length ≤ 1000000000) : ACalls Tryz.prog W0 151 [.agg cs] H (fun v H' => NewV H H' v j) := by
  refine acallw Tryz.func151 rfl (by kernel_rfl) (by kernel_rfl) fun hc hw => ?_
  obtain ⟨vk, vr, rfl, f0, f1, f2, f3, f4, f5, f6, f7, f8, f9, f10, f11, f12, f13, f14, f15, f16⟩ := hj
  have lr := f16.leaf; have cr := f16.one
  have lk := f15.leaf; have ck := f15.one
  repeat' (first | simp -implicitDefEqProofs only [go_sem])
  refine ACallK.of (l2Copy_ok _ vk j.keys _ (f15.sub (by repeat (first | exact Sub.refl _ | assumption | refine Sub.new (by assumption) ?_ _ _ | refine Sub.kill_new (by assumption) ?_ _ _ | refine Sub.trans ?_ (by assumption)))) (by omega)).cl ?_
  rintro u1 H1 ⟨⟨s1, S1, w1, F1⟩, c1⟩
  have n1 := s1.1; simp only [go_sem] at n1
  have a1 := s1.2 H.nxt _ (by simp only [go_sem]; rfl)
  have b1 := s1.2 (H.nxt + 1) _ (by simp only [go_sem]; rfl)
  have hF1 := F1.2; simp only [go_sem] at hF1
  have z1 : Sub H H1 := Sub.trans (by repeat (first | exact Sub.refl _ | assumption | refine Sub.new (by assumption) ?_ _ _ | refine Sub.kill_new (by assumption) ?_ _ _ | refine Sub.trans ?_ (by assumption))) s1
  repeat' (first | simp -implicitDefEqProofs only [go_sem] | (simp -implicitDefEqProofs only [a1, b1, w1.one, w1.leaf, lk, ck, lr, cr, set_set, wr_succ, wr_zero, wr_none, go_sem]))
  refine ACallK.of (l2Copy_ok _ vr j.raw _ (f16.sub (by first | exact Sub.set hw z1 (Nat.le_refl _) _ | exact z1)) (by omega)).cl ?_
  rintro u2 H2 ⟨⟨s2, S2, w2, F2⟩, c2⟩
  have n2 := s2.1; (try simp only [go_sem] at n2)
  have hF2 := F2.2; (try simp only [go_sem] at hF2)
  have hl1 : ∀ b ∈ S1, b < H1.nxt := fun b hb => c1.1.lt' (w1.isin b hb)
  have a2 := s2.2 H.nxt _ (blk_set_self _ _ _)
  have b2 := s2.2 (H.nxt + 1) _ ((blk_set_ne _ (by omega) _).trans b1)
  have z2 : Sub H H2 := (Sub.set hw z1 (Nat.le_refl H.nxt) _).trans s2
  repeat' (first | simp -implicitDefEqProofs only [go_sem] | (simp -implicitDefEqProofs only [a2, b2, w1.one, w1.leaf, w2.one, w2.leaf, lk, ck, lr, cr, set_set, wr_succ, wr_zero, wr_none, go_sem]))
  refine retK_one ⟨Sub.set hw (Sub.set hw z2 (Nat.le_refl _) _) (Nat.le_succ _) _, S1 ++ S2, _, rfl, ⟨u1, u2, S1, S2, rfl, rfl, f0, f1, f2, f3, f4, f5, f6, f7, f8, f9, f10, f11, f12, f13, f14, ?_, ?_⟩, ?_⟩
  · exact OwnS.chg2 ((w1.setne (fun b hb => by have := hF1 b hb; omega)).sub s2) (fun b hb => by have := hF1 b hb; omega)
  · exact OwnS.chg2 w2 (fun b hb => by have := hF2 b hb; omega)
  · exact (F1.le (by simp only [go_sem]; omega)).append F2 (fun b hb => by have := hl1 b hb; simp only [go_sem]; omega) (by simp only [go_sem]; omega)
theorem jobCopy_ok (W0 : World) (cs : List AV) (j : JobD) (H : AH) (hj : Ob.rep W0 H cs j) (hk : j.keys.length ≤ 1000000000 ∧ j.raw.length ≤ 1000000000) : ACalls Tryz.prog W0 166 [.agg cs] H (fun v H' => NewV H H' v j) := by
  refine acallw Tryz.func166 rfl (by kernel_rfl) (by kernel_rfl) fun hc hw => ?_
  obtain ⟨vk, vr, rfl, f0, f1, f2, f3, f4, f5, f6, f7, f8, f9, f10, f11, f12, f13, f14, f15, f16⟩ := hj
  have lr := f16.leaf; have cr := f16.one
  have lk := f15.leaf; have ck := f15.one
  repeat' (first | simp -implicitDefEqProofs only [go_sem] | ((with_reducible refine adraw_plan [(0, []), (1, []), (3, []), (4, []), (2, [3, 4]), (6, []), (5, [6]), (7, []), (8, []), (9, [])] ?_ ?_ ?_); (· kernel_rfl); (· decide +kernel)))
  refine ACallK.of (CloneInt_ok _ vk j.keys _ (f15.sub (by repeat (first | exact Sub.refl _ | assumption | refine Sub.new (by assumption) ?_ _ _ | refine Sub.kill_new (by assumption) ?_ _ _ | refine Sub.trans ?_ (by assumption)))) (by omega)).cl ?_
  rintro u1 H1 ⟨⟨s1, S1, w1, F1⟩, c1⟩
  have n1 := s1.1; simp only [go_sem] at n1
  have a1 := s1.2 H.nxt _ (by simp only [go_sem]; rfl)
  have b1 := s1.2 (H.nxt + 1) _ (by simp only [go_sem]; rfl)
  have hF1 := F1.2; simp only [go_sem] at hF1
  have z1 : Sub H H1 := Sub.trans (by repeat (first | exact Sub.refl _ | assumption | refine Sub.new (by assumption) ?_ _ _ | refine Sub.kill_new (by assumption) ?_ _ _ | refine Sub.trans ?_ (by assumption))) s1
  repeat' (first | simp -implicitDefEqProofs only [go_sem] | (simp -implicitDefEqProofs only [a1, b1, w1.one, w1.leaf, lk, ck, lr, cr, set_set, wr_succ, wr_zero, wr_none, go_sem]))
  refine ACallK.of (CloneInt_ok _ vr j.raw _ (f16.sub z1) (by omega)).cl ?_
  rintro u2 H2 ⟨⟨s2, S2, w2, F2⟩, c2⟩
  have n2 := s2.1; (try simp only [go_sem] at n2)
  have hF2 := F2.2; (try simp only [go_sem] at hF2)
  have hl1 : ∀ b ∈ S1, b < H1.nxt := fun b hb => c1.1.lt' (w1.isin b hb)
  have a2 := s2.2 H.nxt _ a1
  have b2 := s2.2 (H.nxt + 1) _ b1
  have z2 : Sub H H2 := z1.trans s2
  repeat' (first | simp -implicitDefEqProofs only [go_sem] | (simp -implicitDefEqProofs only [a2, b2, w1.one, w1.leaf, w2.one, w2.leaf, lk, ck, lr, cr, set_set, wr_succ, wr_zero, wr_none, go_sem]))
  refine retK_one ⟨Sub.set hw (Sub.set hw z2 (Nat.le_refl _) _) (Nat.le_succ _) _, S1 ++ S2, _, rfl, ⟨u1, u2, S1, S2, rfl, rfl, f0, f1, f2, f3, f4, f5, f6, f7, f8, f9, f10, f11, f12, f13, f14, ?_, ?_⟩, ?_⟩
  · exact OwnS.chg2 (w1.sub s2) (fun b hb => by have := hF1 b hb; omega)
  · exact OwnS.chg2 w2 (fun b hb => by have := hF2 b hb; omega)
  · exact (F1.le (by simp only [go_sem]; omega)).append F2 (fun b hb => hl1 b hb) (by omega)
end Go.Proofs.YtipfnhfcoolhaaaGreat.Aw
end
