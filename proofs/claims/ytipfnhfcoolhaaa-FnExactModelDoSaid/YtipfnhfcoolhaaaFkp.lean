/- A row of keys put in its place: the reference. -/
import Derived.Test.YtipfnhfcoolhaaaFrj
import Derived.Test.YtipfnhfcoolhaaaFrk
import Derived.Test.YtipfnhfcoolhaaaMm
namespace Go.Proofs.Ytipfnhfcoolhaaa.Aw
open Go Go.RowKit
set_option linter.unusedVariables false
set_option linter.unusedSimpArgs false
set_option maxRecDepth 100000
set_option maxHeartbeats 2000000
attribute [-go_sem] aapp2_some
/-- How far the rows are laid. -/
def putKTo (l : List KRowD) (r : KRowD) (i : Nat) : List KRowD := if gtAny (kf := KRowD.key) (l.take i) r.key = true then insK KRowD.key (l.take i) r else l.take i
theorem putKTo_zero (l : List KRowD) (r : KRowD) : putKTo l r 0 = [] := by simp [putKTo, gtAny]
theorem gtAnyK_succ (l : List KRowD) (key : ByteArray) {i : Nat} (h : i < l.length) : gtAny (kf := KRowD.key) (l.take (i + 1)) key = (gtAny (kf := KRowD.key) (l.take i) key || decide (klt key l[i].key)) := by
  unfold gtAny; rw [List.take_succ_eq_append_getElem h, List.any_append]; simp
theorem putKTo_succ (l : List KRowD) (r : KRowD) {i : Nat} (h : i < l.length) : putKTo l r (i + 1) = if gtAny (kf := KRowD.key) (l.take i) r.key = true then putKTo l r i ++ [l[i]] else if klt r.key l[i].key then (putKTo l r i ++ [r]) ++ [l[i]] else putKTo l r i ++ [l[i]] := by
  unfold putKTo
  rw [gtAnyK_succ _ _ h, List.take_succ_eq_append_getElem h]
  rw [insK_snoc]
  by_cases g : gtAny (kf := KRowD.key) (l.take i) r.key = true
  · rw [g]; simp
  · by_cases k : klt r.key l[i].key
    · simp only [Bool.not_eq_true] at g; rw [g]; simp [k]
    · simp only [Bool.not_eq_true] at g; rw [g]; simp [k]
theorem putKTo_length (l : List KRowD) (r : KRowD) (i : Nat) : (putKTo l r i).length ≤ i + 1 := by
  unfold putKTo; split
  · rw [insK_length]; simp; omega
  · simp; omega
theorem putKTo_ok {l : List KRowD} {r : KRowD} (h : ∀ x ∈ l, Flat.ok x) (hr : Flat.ok r) (i : Nat) : ∀ x ∈ putKTo l r i, Flat.ok x := by
  unfold putKTo; intro x hx
  split at hx
  · rcases mem_insK.1 hx with rfl | hx
    · exact hr
    · exact h x (List.mem_of_mem_take hx)
  · exact h x (List.mem_of_mem_take hx)
theorem l13KeyPut_ok (W0 : World) (v : AV) (l : List KRowD) (r : KRowD) (S : List Nat) (H : AH) (ho : OwnS H S v l) (hn : S.Nodup) (hl : l.length ≤ 1000) (hr : Flat.ok r) :
    ACalls Try.prog W0 139 [v, .agg [.v (.string r.key), .v (.int .i64 r.kind)]] H (fun u H' => ∃ S', OwnS H' S' u (insK KRowD.key l r) ∧ Upd S H H' S') := by
  refine acallw Try.func139 rfl (by kernel_rfl) (by kernel_rfl) fun hc hw => ?_
  have hv := ho.slr (W0 := W0)
  have hok : ∀ x ∈ l, Flat.ok x := by
    rcases ho.flat with ⟨-, rfl, -⟩ | ⟨b, o, cs, -, -, -, -, -, -, h⟩
    · intro x hx; cases hx
    · exact h
  repeat' (first | simp -implicitDefEqProofs only [go_sem])
  have hw0 : (H.new [AV.v (Value.string r.key), AV.v (Value.int IntKind.i64 r.kind)] 2).wf := hw.new _ _
  refine acode_while (fun (p : Nat × Nat) => [(0, v), (3, .ptr H.nxt 0), (5, .sl p.2 0 (putKTo l r p.1).length), (6, .v (.bool (gtAny (kf := KRowD.key) (l.take p.1) r.key))), (7, .v (.int .i64 p.1))]) (fun p H' => Sub (H.new [AV.v (Value.string r.key), AV.v (Value.int IntKind.i64 r.kind)] 2) H' ∧ p.1 ≤ l.length ∧ H.nxt + 1 ≤ p.2 ∧ p.2 < H'.nxt ∧ H'.blk p.2 = some ⟨encL (putKTo l r p.1), 2⟩) (fun p => l.length - p.1) (0, H.nxt + 1) ?_ ?_ (by simp only [frOk, go_sem, putKTo_zero]; simp [gtAny])
  · refine ⟨by repeat (first | exact Sub.refl _ | assumption | refine Sub.new (by assumption) ?_ _ _ | refine Sub.kill_new (by assumption) ?_ _ _ | refine Sub.trans ?_ (by assumption)), by simp only; omega, by simp only; omega, by simp only [go_sem]; omega, by simp only [go_sem, putKTo_zero]; rfl⟩
  rintro ⟨i, b⟩ H' ⟨hs, hi, hb, hbl, hB⟩
  simp only at hi hb hbl hB ⊢
  have hbn : b ≠ H'.nxt := by omega
  have hpl := putKTo_length l r i
  have hpo := putKTo_ok hok hr i
  have hli : ∀ (h : i < l.length), Flat.ok l[i] := fun h => hok _ (List.getElem_mem h)
  have hpo2 : ∀ x ∈ putKTo l r i ++ [r], Flat.ok x := by intro x hx; rcases List.mem_append.1 hx with hx | hx; exact hpo x hx; rw [List.mem_singleton.1 hx]; exact hr
  have hb0 : H.nxt ≤ b := by omega
  have hb0' : (H.new [AV.v (Value.string r.key), AV.v (Value.int IntKind.i64 r.kind)] 2).nxt ≤ b := by simp only [go_sem]; omega
  have hP2 := putKTo_succ l r (i := i)
  have hs0 : Sub H H' := (Sub.new hw (Sub.refl _) _ _).trans hs
  have hs1 := hs
  repeat' (first | simp -implicitDefEqProofs only [go_sem] | (simp only [if_neg hbn, hB]) | (refine aixs_sln (by assumption) ?_ (by repeat (first | exact Sub.refl _ | assumption | refine Sub.new (by assumption) ?_ _ _ | refine Sub.kill_new (by assumption) ?_ _ _ | refine Sub.kill (by assumption) ?_ (by first | omega | (simp only [go_sem]; omega)) | refine Sub.trans ?_ (by assumption)))) | (refine aK_sl (by assumption) (by omega) ?_ (by repeat (first | exact Sub.refl _ | assumption | refine Sub.new (by assumption) ?_ _ _ | refine Sub.kill_new (by assumption) ?_ _ _ | refine Sub.kill (by assumption) ?_ (by first | omega | (simp only [go_sem]; omega)) | refine Sub.trans ?_ (by assumption))); rintro _ ⟨rfl, _⟩) | (refine acc2 (xs := putKTo l r i) (r := r) rfl rfl rfl hpo hr rfl ?_) | (refine acc2 (xs := putKTo l r i) (r := l[i]) rfl rfl rfl hpo (hli _) rfl ?_) | (refine acc2 (xs := putKTo l r i ++ [r]) (r := l[i]) rfl (by simp) rfl hpo2 (hli _) rfl ?_ (by decide) (by decide) rfl (by simp only [List.length_append, List.length_singleton]; omega)) | refine acond_dec (fun _ => ?_) (fun _ => ?_) | refine abi_len_sl' (by assumption) ?_ | refine afa_sl (by assumption) ?_ | simp -implicitDefEqProofs (disch := omega) only [wrap_in, u8_small, Int.tmod_eq_emod_of_nonneg, Int.tdiv_eq_ediv_of_nonneg] | refine aK_sub (by assumption) ?_ | ((with_reducible refine adraw_seq ?_ ?_ ?_); (· kernel_rfl); (· decide +kernel)) | simp -implicitDefEqProofs only [go_sem, slCells_own, aapp_own] | refine acond_split (fun _ => ?_) (fun _ => ?_) | refine agrd_bt (fun _ => ?_) (fun _ => ?_))
  · have hil : i < l.length := by omega
    have hg : gtAny (kf := KRowD.key) (l.take i) r.key = false := by simp_all
    have hne : ¬ l[i].key = r.key := by intro h; simp_all
    have hk : klt r.key l[i].key := klt_gtr (by simp_all) hne
    have e := hP2 hil
    rw [hg, if_neg (by decide), if_pos hk] at e
    have e2 := gtAnyK_succ l r.key hil
    rw [hg, decide_eq_true hk] at e2
    refine back (i + 1, H'.nxt + 3) ⟨by repeat (first | exact Sub.refl _ | assumption | refine Sub.new (by assumption) ?_ _ _ | refine Sub.kill_new (by assumption) ?_ _ _ | refine Sub.kill (by assumption) ?_ (by first | omega | (simp only [go_sem]; omega)) | refine Sub.trans ?_ (by assumption)), by simp only; omega, by simp only; omega, by simp only [go_sem]; omega, ?_⟩ (by simp only; omega) ?_
    · simp only [e]; simp only [go_sem]
    · simp only [frOk, go_sem, e, e2]; simp
  · have hil : i < l.length := by omega
    have hg : gtAny (kf := KRowD.key) (l.take i) r.key = false := by simp_all
    have hk : ¬ klt r.key l[i].key := fun h => by
      have h1 := klt_asymm h
      have h2 : ¬ l[i].key = r.key := fun h2 => klt_irrefl _ (h2 ▸ h)
      unfold klt at h1; simp_all
    have e := hP2 hil
    rw [hg, if_neg (by decide), if_neg hk] at e
    have e2 := gtAnyK_succ l r.key hil
    rw [hg, decide_eq_false hk] at e2
    refine back (i + 1, H'.nxt + 1) ⟨by repeat (first | exact Sub.refl _ | assumption | refine Sub.new (by assumption) ?_ _ _ | refine Sub.kill_new (by assumption) ?_ _ _ | refine Sub.kill (by assumption) ?_ (by first | omega | (simp only [go_sem]; omega)) | refine Sub.trans ?_ (by assumption)), by simp only; omega, by simp only; omega, by simp only [go_sem]; omega, ?_⟩ (by simp only; omega) ?_
    · simp only [e]; simp only [go_sem]
    · simp only [frOk, go_sem, e, e2, hg]; simp
  · have hil : i < l.length := by omega
    have hg : gtAny (kf := KRowD.key) (l.take i) r.key = true := by simp_all
    have e := hP2 hil
    rw [if_pos hg] at e
    have e2 := gtAnyK_succ l r.key hil
    rw [hg] at e2
    refine back (i + 1, H'.nxt + 1) ⟨by repeat (first | exact Sub.refl _ | assumption | refine Sub.new (by assumption) ?_ _ _ | refine Sub.kill_new (by assumption) ?_ _ _ | refine Sub.kill (by assumption) ?_ (by first | omega | (simp only [go_sem]; omega)) | refine Sub.trans ?_ (by assumption)), by simp only; omega, by simp only; omega, by simp only [go_sem]; omega, ?_⟩ (by simp only; omega) ?_
    · simp only [e]; simp only [go_sem]
    · simp only [frOk, go_sem, e, e2, hg]; simp
  · have hil : i = l.length := by omega
    subst hil
    have hg : gtAny (kf := KRowD.key) l r.key = false := by simp_all
    have e : insK KRowD.key l r = putKTo l r l.length ++ [r] := by
      unfold putKTo
      rw [List.take_length, hg, if_neg (by decide), insK_none hg]
    rw [e]
    refine retK_one ⟨[H'.nxt + 1], OwnS.ofFlat (cs := encL (putKTo l r l.length ++ [r])) (by simp only [go_sem]; rfl) ?_ ?_ (by simp only [big, List.length_append, List.length_singleton]; omega) hpo2 (by simp), Upd.ofSub (by repeat (first | exact Sub.refl _ | assumption | refine Sub.new (by assumption) ?_ _ _ | refine Sub.kill_new (by assumption) ?_ _ _ | refine Sub.kill (by assumption) ?_ (by first | omega | (simp only [go_sem]; omega)) | refine Sub.trans ?_ (by assumption))) ⟨by simp, by intro x hx; simp at hx; omega⟩⟩
    · rw [List.drop_zero]; exact List.take_of_length_le (by rw [encL_len hpo2]; exact Nat.le_refl _)
    · rw [encL_len hpo2]; omega
  · have hil : i = l.length := by omega
    subst hil
    have hg : gtAny (kf := KRowD.key) l r.key = true := by simp_all
    have e : insK KRowD.key l r = putKTo l r l.length := by
      unfold putKTo
      rw [List.take_length, if_pos hg]
    rw [e]
    refine retK_one ⟨[b], OwnS.ofFlat (cs := encL (putKTo l r l.length)) hB ?_ ?_ (by simp only [big]; omega) hpo rfl, Upd.ofSub hs0 ⟨by simp, by intro x hx; simp at hx; omega⟩⟩
    · rw [List.drop_zero]; exact List.take_of_length_le (by rw [encL_len hpo]; exact Nat.le_refl _)
    · rw [encL_len hpo]; omega
/-- All rows but those of a key, then one more: the reference. -/
theorem butK_succ (l : List RowD) (key : ByteArray) {i : Nat} (h : i < l.length) : butK RowD.key (l.take (i + 1)) key = butK RowD.key (l.take i) key ++ (if l[i].key = key then [] else [l[i]]) := by
  unfold butK
  rw [List.take_succ_eq_append_getElem h, List.filter_append]
  congr 1
  by_cases h2 : l[i].key = key <;> simp [h2]
theorem butK_le (l : List RowD) (key : ByteArray) (i : Nat) : (butK RowD.key (l.take i) key).length ≤ i := by
  unfold butK
  exact Nat.le_trans (List.length_filter_le _ _) (by simp; omega)
theorem l13Row_ok (W0 : World) (v : AV) (l : List RowD) (r : RowD) (S : List Nat) (H : AH) (ho : OwnS H S v l) (hn : S.Nodup) (hl : l.length ≤ 900) (hr : rowB r) (hk : ¬ r.kind = 0) :
    ACalls Try.prog W0 140 [v, .agg (rowCells r)] H (fun u H' => ∃ S', OwnS H' S' u (rowAnew l r) ∧ Upd S H H' S') := by
  refine acallw Try.func140 rfl (by kernel_rfl) (by kernel_rfl) fun hc hw => ?_
  have hv := ho.slr (W0 := W0)
  have hok : ∀ x ∈ l, Flat.ok x := by
    rcases ho.flat with ⟨-, rfl, -⟩ | ⟨b, o, cs, -, -, -, -, -, -, h⟩
    · intro x hx; cases hx
    · exact h
  simp only [rowCells]
  repeat' (first | simp -implicitDefEqProofs only [go_sem])
  have hw0 : (H.new (rowCells r) 10).wf := hw.new _ _
  refine acode_while (fun (p : Nat × Nat) => [(0, v), (3, .ptr H.nxt 0), (5, .sl p.2 0 (butK RowD.key (l.take p.1) r.key).length), (6, .v (.int .i64 p.1))]) (fun p H' => H'.wf ∧ Sub (H.new (rowCells r) 10) H' ∧ p.1 ≤ l.length ∧ H.nxt + 1 ≤ p.2 ∧ p.2 < H'.nxt ∧ H'.blk p.2 = some ⟨encL (butK RowD.key (l.take p.1) r.key), 10⟩) (fun p => l.length - p.1) (0, H.nxt + 1) ?_ ?_ (by simp only [frOk, go_sem]; simp [butK])
  · refine ⟨hw0.new _ _, (Sub.refl _).new hw0 _ _, by simp only; omega, by simp only; omega, by simp only [go_sem]; omega, by simp only [go_sem]; rfl⟩
  rintro ⟨i, b⟩ H' ⟨hw', hs, hi, hb, hbl, hB⟩
  simp only at hi hb hbl hB ⊢
  have hbn : b ≠ H'.nxt := by omega
  have hpl := butK_le l r.key i
  have hpo : ∀ x ∈ butK RowD.key (l.take i) r.key, Flat.ok x := fun x hx => hok x (List.mem_of_mem_take (List.mem_filter.1 hx).1)
  have hli : ∀ (h : i < l.length), Flat.ok l[i] := fun h => hok _ (List.getElem_mem h)
  have hb0 : H.nxt ≤ b := by omega
  have hb0' : (H.new (rowCells r) 10).nxt ≤ b := by simp only [go_sem]; omega
  have hP2 := butK_succ l r.key (i := i)
  have hs0 : Sub H H' := (Sub.new hw (Sub.refl _) _ _).trans hs
  have hs1 := hs
  simp only [rowCells] at hs hs1 hw0 hb0'
  repeat' (first | simp -implicitDefEqProofs only [go_sem] | (simp only [if_neg hbn, hB]) | (refine aixs_sln (by assumption) ?_ (by repeat (first | exact Sub.refl _ | assumption | refine Sub.new (by assumption) ?_ _ _ | refine Sub.kill_new (by assumption) ?_ _ _ | refine Sub.kill (by assumption) ?_ (by first | omega | (simp only [go_sem]; omega)) | refine Sub.trans ?_ (by assumption)))) | (refine aK_sl (by assumption) (by omega) ?_ (by repeat (first | exact Sub.refl _ | assumption | refine Sub.new (by assumption) ?_ _ _ | refine Sub.kill_new (by assumption) ?_ _ _ | refine Sub.kill (by assumption) ?_ (by first | omega | (simp only [go_sem]; omega)) | refine Sub.trans ?_ (by assumption))); rintro _ ⟨rfl, _⟩) | (refine acc2 (xs := butK RowD.key (l.take i) r.key) (r := l[i]) rfl rfl rfl hpo (hli _) rfl ?_) | (refine ACallK.eq (Quiet_spec _ _ r _ ⟨rfl, hr⟩) ?_) | refine acond_dec (fun _ => ?_) (fun _ => ?_) | refine acond_ndec (fun _ => ?_) (fun _ => ?_) | refine abi_len_sl' (by assumption) ?_ | refine afa_sl (by assumption) ?_ | simp -implicitDefEqProofs (disch := omega) only [wrap_in, u8_small, Int.tmod_eq_emod_of_nonneg, Int.tdiv_eq_ediv_of_nonneg] | refine aK_sub (by assumption) ?_ | ((with_reducible refine adraw_seq ?_ ?_ ?_); (· kernel_rfl); (· decide +kernel)) | simp -implicitDefEqProofs only [go_sem, slCells_own, aapp_own] | refine acond_split (fun _ => ?_) (fun _ => ?_))
  · have hil : i < l.length := by omega
    have e := hP2 hil
    rw [if_neg (by assumption)] at e
    refine back (i + 1, H'.nxt + 1) ⟨((hw'.new _ _).kill _).new _ _, by repeat (first | exact Sub.refl _ | assumption | refine Sub.new (by assumption) ?_ _ _ | refine Sub.kill_new (by assumption) ?_ _ _ | refine Sub.kill (by assumption) ?_ (by first | omega | (simp only [go_sem]; omega)) | refine Sub.trans ?_ (by assumption)), by simp only; omega, by simp only; omega, by simp only [go_sem]; omega, ?_⟩ (by simp only; omega) ?_
    · simp only [e]; simp only [go_sem]
    · simp only [frOk, go_sem, e]; simp
  · have hil : i < l.length := by omega
    have e := hP2 hil
    rw [if_pos (by assumption), List.append_nil] at e
    refine back (i + 1, b) ⟨hw', hs, by simp only; omega, by simp only; omega, by simp only [go_sem]; omega, ?_⟩ (by simp only; omega) ?_
    · simp only [e]; exact hB
    · simp only [frOk, go_sem, e]; simp
  all_goals (have hil : i = l.length := by omega)
  all_goals subst hil
  all_goals rw [List.take_length] at hB hpl hpo ⊢
  all_goals (have ob : OwnS H' [b] (.sl b 0 (butK RowD.key l r.key).length) (butK RowD.key l r.key) := OwnS.ofFlat (cs := encL (butK RowD.key l r.key)) hB (by rw [List.drop_zero]; exact List.take_of_length_le (by rw [encL_len hpo]; exact Nat.le_refl _)) (by rw [encL_len hpo]; omega) (by simp only [big]; omega) hpo rfl)
  · have e : rowAnew l r = butK RowD.key l r.key := by unfold rowAnew addRow; rw [if_pos (.inr (by assumption))]
    rw [e]
    exact retK_one ⟨[b], ob, Upd.ofSub hs0 ⟨by simp, by intro x hx; simp at hx; omega⟩⟩
  · have hq : quiet r = false := by first | assumption | (simpa using (by assumption : ¬ quiet r = true))
    have e : rowAnew l r = putK RowD.key (butK RowD.key l r.key) r := by unfold rowAnew addRow; rw [if_neg (by exact fun h => h.elim hk (fun h => by rw [hq] at h; cases h))]
    rw [e]
    refine ACallK.of (l8Put_ok _ _ (butK RowD.key l r.key) r [b] _ ob (by simp) (by omega) hr) ?_
    rintro u H2 ⟨S2, o2, g2⟩
    obtain ⟨k1, k2⟩ := g2.sub hw hs0 (fun x hx => by simp at hx; omega)
    repeat' (first | simp -implicitDefEqProofs only [go_sem])
    exact retK_one ⟨S2, o2, Upd.ofSub k1 ⟨g2.2.2.2, k2⟩⟩
end Go.Proofs.Ytipfnhfcoolhaaa.Aw
