/- Parts of a proof: Fy Up Fmr Fdl FpK. -/
import Derived.Test.YtipfnhfcoolhaaaGreatM08
import Derived.Test.YtipfnhfcoolhaaaGreatM03
import Derived.Test.YtipfnhfcoolhaaaGreatM02
import Derived.Test.YtipfnhfcoolhaaaGreatM04
import Derived.Test.YtipfnhfcoolhaaaGreatM05
set_option linter.unusedVariables false
set_option linter.unusedSimpArgs false
section
namespace Go.Proofs.YtipfnhfcoolhaaaGreat.Aw
open Go Go.RowKit
set_option maxRecDepth 100000
set_option maxHeartbeats 2000000
section
variable {l : List KRowD} {i : Nat} {m : ModelD}
theorem keyAt_0 (h : 0 < l.length) : keyAt l 0 = !decide (tagged l[0].key l[0].kind = 0) := by
  simp [keyAt, List.getD_eq_getElem?_getD, List.getElem?_eq_getElem h]
theorem keyAt_s {j : Nat} (hk : j + 1 = i) (h : i < l.length) : keyAt l i = (!decide (tagged l[i].key l[i].kind = 0) && !(Op.bytesLess l[i].key.toList l[j].key.toList || decide (l[i].key = l[j].key))) := by
  subst hk
  have h' : j < l.length := by omega
  simp [keyAt, keyLe, List.getD_eq_getElem?_getD, List.getElem?_eq_getElem h, List.getElem?_eq_getElem h']
theorem modelOk_key (h : i < m.keys.length) (hp : keyAt m.keys i = false) : modelOk m = false := by
  unfold modelOk; rw [range_fail h hp]; rfl
theorem modelOk_len (h : 4 < (m.keys.length : Int)) : modelOk m = false := by
  unfold modelOk; rw [decide_eq_false (p := (m.keys.length : Int) ≤ 4) (by omega)]; simp
theorem modelOk_rep (h : reportOk m.rows = false) : modelOk m = false := by
  unfold modelOk; rw [h]; simp
theorem modelOk_keys (h : RTo (keyAt m.keys) i) (hi : m.keys.length ≤ i) (hl : (m.keys.length : Int) ≤ 4) (hr : reportOk m.rows = true) : modelOk m = !(m.rows.any fun r => !decide (modelKind m r.key = r.kind)) := by
  unfold modelOk; rw [range_done h hi, decide_eq_true hl, hr, List.all_eq_not_any_not]; simp
end
theorem ModelOk1_ok (W0 : World) (cs ds : List AV) (x : RowD) (m : ModelD) (k : Nat) (H : AH) (hx : Ob.rep W0 H cs x) (hm : Ob.rep W0 H ds m) (hk : H.blk k = some ⟨ds, 2⟩) :
    ACalls Tryz.prog W0 213 [.agg cs, .ptr k 0] H (fun v H' => v = .v (.bool (!decide (modelKind m x.key = x.kind))) ∧ H' = H) := by
  refine acallw Tryz.func213 rfl (by kernel_rfl) (by kernel_rfl) fun hc hw => ?_
  obtain ⟨rfl, hx⟩ := hx
  have hm' := hm
  obtain ⟨vk, vr, rfl, h1, h2⟩ := hm'
  have hk1 := hw.lt hk
  repeat' (first | simp -implicitDefEqProofs only [go_sem] | refine acond_dec (fun _ => ?_) (fun _ => ?_) | refine acond_ndec (fun _ => ?_) (fun _ => ?_) | refine agrd_dec (fun _ => ?_) (fun _ => ?_) | refine agrd_decf (fun _ => ?_) (fun _ => ?_) | refine agrd_ndec (fun _ => ?_) (fun _ => ?_) | refine agrd_ndecf (fun _ => ?_) (fun _ => ?_) | refine abi_len_sl' (by assumption) ?_ | refine aixs_sln (by assumption) ?_ | refine afa_sl (by assumption) ?_ | (refine aK_sl (by assumption) (by omega) ?_; first | rintro _ ⟨rfl, _⟩ | (intro _ hx; obtain ⟨_, rfl, _, _⟩ := EvD.out hx) | (intro _ hx; obtain ⟨_, _, rfl, _, _, _⟩ := JobD.out hx) | rintro _ ⟨_, rfl, _⟩) | rw [SlR.one (by assumption)] | rw [SlR.leaf (by assumption)] | simp -implicitDefEqProofs (disch := omega) only [wrap_in, u8_small, Int.tmod_eq_emod_of_nonneg, Int.tdiv_eq_ediv_of_nonneg] | refine aK_sub (by assumption) ?_ | refine aix_strn (fun _ _ => ?_) | ((with_reducible refine adraw_seq ?_ ?_ ?_); (· kernel_rfl); (· decide +kernel)) | (simp -implicitDefEqProofs (disch := omega) only [go_sem, if_neg, hk]) | refine ACallK.eq (ModelKind_impl _ _ m _ _ (Ob.sub' (by assumption))) ?_ | simp -implicitDefEqProofs only [go_sem, slCells_own, aapp_own] | ((with_reducible refine adraw_plan [(0, []), (1, []), (2, []), (4, []), (5, []), (3, [4, 5]), (6, []), (7, [])] ?_ ?_ ?_); (· kernel_rfl); (· decide +kernel)) | refine And.intro (by omega) (And.intro (by omega) ?_) | refine acond_split (fun _ => ?_) (fun _ => ?_) | refine agrd_bt (fun _ => ?_) (fun _ => ?_) | refine agrd_bf (fun _ => ?_) (fun _ => ?_) | refine retK_eq ?_ | refine retK_back (by assumption) ?_ | refine retK_eq2 ?_ | refine retK_back2 (by assumption) ?_)
  all_goals trace_state
theorem ContainsRow_ok (W0 : World) (a : AV) (xs : List RowD) (g : FuncId) (caps : List AV) (p : RowD → Bool) (H : AH) (ha : SlR W0 H a xs) (hp : ∀ cs x, Ob.rep W0 H cs x → ACalls Tryz.prog W0 g (.agg cs :: caps) H (fun v H' => v = .v (.bool (p x)) ∧ H' = H)) :
    ACalls Tryz.prog W0 212 [a, .fn g caps] H (fun v H' => v = .v (.bool (xs.any p)) ∧ H' = H) := by
  refine acallw Tryz.func212 rfl (by kernel_rfl) (by kernel_rfl) fun hc hw => ?_
  repeat' (first | simp -implicitDefEqProofs only [go_sem] | refine acond_dec (fun _ => ?_) (fun _ => ?_) | refine acond_ndec (fun _ => ?_) (fun _ => ?_) | refine agrd_dec (fun _ => ?_) (fun _ => ?_) | refine agrd_decf (fun _ => ?_) (fun _ => ?_) | refine agrd_ndec (fun _ => ?_) (fun _ => ?_) | refine agrd_ndecf (fun _ => ?_) (fun _ => ?_) | refine abi_len_sl' (by assumption) ?_ | refine aixs_sln (by assumption) ?_ | refine afa_sl (by assumption) ?_ | (refine aK_sl (by assumption) (by omega) ?_; first | rintro _ ⟨rfl, _⟩ | (intro _ hx; obtain ⟨_, rfl, _, _⟩ := EvD.out hx) | (intro _ hx; obtain ⟨_, _, rfl, _, _, _⟩ := JobD.out hx) | rintro _ ⟨_, rfl, _⟩) | rw [SlR.one (by assumption)] | rw [SlR.leaf (by assumption)] | simp -implicitDefEqProofs (disch := omega) only [wrap_in, u8_small, Int.tmod_eq_emod_of_nonneg, Int.tdiv_eq_ediv_of_nonneg] | refine aK_sub (by assumption) ?_ | refine aix_strn (fun _ _ => ?_) | ((with_reducible refine adraw_seq ?_ ?_ ?_); (· kernel_rfl); (· decide +kernel)) | refine ACallK.eq (IndexFuncRow_ok _ _ _ _ _ p _ ha hp) ?_ | simp -implicitDefEqProofs only [go_sem, slCells_own, aapp_own] | refine And.intro (by omega) (And.intro (by omega) ?_) | refine acond_split (fun _ => ?_) (fun _ => ?_) | refine agrd_bt (fun _ => ?_) (fun _ => ?_) | refine agrd_bf (fun _ => ?_) (fun _ => ?_) | refine retK_eq ?_ | refine retK_back (by assumption) ?_ | refine retK_eq2 ?_ | refine retK_back2 (by assumption) ?_)
  rw [firstIdx_anyS]
theorem ModelOk_impl (W0 : World) (cs : List AV) (m : ModelD) (H : AH) (hm : Ob.rep W0 H cs m) : ACalls Tryz.prog W0 132 [.agg cs] H (fun v H' => v = .v (.bool (modelOk m)) ∧ H' = H) := by
  refine acallw Tryz.func132 rfl (by kernel_rfl) (by kernel_rfl) fun hc hw => ?_
  have hm' := hm
  obtain ⟨vk, vr, rfl, hkk, hr⟩ := hm'
  have bk := hkk.2.1; simp only [big] at bk
  have br := hr.2.1; simp only [big] at br
  repeat' (first | simp -implicitDefEqProofs only [go_sem] | refine acond_dec (fun _ => ?_) (fun _ => ?_) | refine acond_ndec (fun _ => ?_) (fun _ => ?_) | refine agrd_dec (fun _ => ?_) (fun _ => ?_) | refine agrd_decf (fun _ => ?_) (fun _ => ?_) | refine agrd_ndec (fun _ => ?_) (fun _ => ?_) | refine agrd_ndecf (fun _ => ?_) (fun _ => ?_) | refine abi_len_sl' (by assumption) ?_ | refine aixs_sln (by assumption) ?_ | refine afa_sl (by assumption) ?_ | (refine aK_sl (by assumption) (by omega) ?_; first | rintro _ ⟨rfl, _⟩ | (intro _ hx; obtain ⟨_, rfl, _, _⟩ := EvD.out hx) | (intro _ hx; obtain ⟨_, _, rfl, _, _, _⟩ := JobD.out hx) | rintro _ ⟨_, rfl, _⟩) | rw [SlR.one (by assumption)] | rw [SlR.leaf (by assumption)] | simp -implicitDefEqProofs (disch := omega) only [wrap_in, u8_small, Int.tmod_eq_emod_of_nonneg, Int.tdiv_eq_ediv_of_nonneg] | refine aK_sub (by assumption) ?_ | refine aix_strn (fun _ _ => ?_) | ((with_reducible refine adraw_seq ?_ ?_ ?_); (· kernel_rfl); (· decide +kernel)) | refine ACallK.eq (ReportOk_impl _ _ m.rows _ (SlR.sub' hr)) ?_ | simp -implicitDefEqProofs only [go_sem, slCells_own, aapp_own] | refine And.intro (by omega) (And.intro (by omega) ?_) | refine acond_split (fun _ => ?_) (fun _ => ?_) | refine agrd_bt (fun _ => ?_) (fun _ => ?_) | refine agrd_bf (fun _ => ?_) (fun _ => ?_) | refine retK_eq ?_ | refine retK_back (by assumption) ?_ | refine retK_eq2 ?_ | refine retK_back2 (by assumption) ?_)
  all_goals first
    | rw [modelOk_len (by omega)]
    | rw [modelOk_rep (by simpa using (by assumption : (!reportOk m.rows) = true))]
    | skip
  rename_i hrep
  have hrep : reportOk m.rows = true := by simpa using hrep
  refine acode_while (fun i : Nat => [(1, .ptr H.nxt 0), (16, vk), (17, .v (.int .i64 m.keys.length)), (18, .v (.int .i64 i))]) (fun i H' => Sub (H.new [vk, vr] 2) H' ∧ i ≤ m.keys.length ∧ RTo (keyAt m.keys) i) (fun i => m.keys.length - i) 0 ⟨Sub.refl _, by omega, RTo.zero _⟩ ?_
  rintro i H' ⟨hs, hi, hP⟩
  have hw2 : (H.new [vk, vr] 2).wf := hw.new _ _
  have hblk : H'.blk H.nxt = some ⟨[vk, vr], 2⟩ := hs.2 _ _ (by simp only [go_sem])
  have hn : H.nxt + 1 ≤ H'.nxt := hs.1
  rcases Nat.lt_or_ge i m.keys.length with hlt | hge
  · rcases i with _ | j
    · repeat' (first | simp -implicitDefEqProofs only [go_sem] | refine acond_dec (fun _ => ?_) (fun _ => ?_) | refine acond_ndec (fun _ => ?_) (fun _ => ?_) | refine agrd_dec (fun _ => ?_) (fun _ => ?_) | refine agrd_decf (fun _ => ?_) (fun _ => ?_) | refine agrd_ndec (fun _ => ?_) (fun _ => ?_) | refine agrd_ndecf (fun _ => ?_) (fun _ => ?_) | refine abi_len_sl' (by assumption) ?_ | refine aixs_sln (by assumption) ?_ | refine afa_sl (by assumption) ?_ | (refine aK_sl (by assumption) (by omega) ?_; first | rintro _ ⟨rfl, _⟩ | (intro _ hx; obtain ⟨_, rfl, _, _⟩ := EvD.out hx) | (intro _ hx; obtain ⟨_, _, rfl, _, _, _⟩ := JobD.out hx) | rintro _ ⟨_, rfl, _⟩) | rw [SlR.one (by assumption)] | rw [SlR.leaf (by assumption)] | simp -implicitDefEqProofs (disch := omega) only [wrap_in, u8_small, Int.tmod_eq_emod_of_nonneg, Int.tdiv_eq_ediv_of_nonneg] | refine aK_sub (by assumption) ?_ | refine aix_strn (fun _ _ => ?_) | ((with_reducible refine adraw_seq ?_ ?_ ?_); (· kernel_rfl); (· decide +kernel)) | refine ACallK.eq (Tagged_impl _ _ _ _ (by omega)) ?_ | (exfalso; omega) | (simp -implicitDefEqProofs (disch := omega) only [if_neg, hblk]) | simp -implicitDefEqProofs only [go_sem, slCells_own, aapp_own] | refine And.intro (by omega) (And.intro (by omega) ?_) | refine acond_split (fun _ => ?_) (fun _ => ?_) | refine agrd_bt (fun _ => ?_) (fun _ => ?_) | refine agrd_bf (fun _ => ?_) (fun _ => ?_) | refine retK_eq ?_ | refine retK_back (by assumption) ?_ | refine retK_eq2 ?_ | refine retK_back2 (by assumption) ?_)
      all_goals first
        | (exfalso; omega)
        | exact back 1 ⟨by repeat (first | exact Sub.refl _ | assumption | refine Sub.new (by assumption) ?_ _ _ | refine Sub.kill_new (by assumption) ?_ _ _ | refine Sub.trans ?_ (by assumption)), by omega, hP.succ (by rw [keyAt_0 (by omega)]; simp only [*, decide_false, Bool.not_false, Bool.and_true])⟩
        | exact back (i + 1) ⟨by repeat (first | exact Sub.refl _ | assumption | refine Sub.new (by assumption) ?_ _ _ | refine Sub.kill_new (by assumption) ?_ _ _ | refine Sub.trans ?_ (by assumption)), by omega, hP.succ (by rw [keyAt_s hk (by omega)]; simp only [*, decide_false, Bool.not_false, Bool.and_true])⟩
        | rw [modelOk_key (m := m) (i := 0) (by omega) (by rw [keyAt_0 (by omega)]; simp only [*, decide_true, decide_false, Bool.not_true, Bool.and_false, Bool.false_and])]
        | rw [modelOk_key (m := m) (i := i) (by omega) (by rw [keyAt_s hk (by omega)]; simp only [*, decide_true, decide_false, Bool.not_true, Bool.and_false, Bool.false_and])]
        | trace_state
    · generalize hk : j + 1 = i at *
      repeat' (first | simp -implicitDefEqProofs only [go_sem] | refine acond_dec (fun _ => ?_) (fun _ => ?_) | refine acond_ndec (fun _ => ?_) (fun _ => ?_) | refine agrd_dec (fun _ => ?_) (fun _ => ?_) | refine agrd_decf (fun _ => ?_) (fun _ => ?_) | refine agrd_ndec (fun _ => ?_) (fun _ => ?_) | refine agrd_ndecf (fun _ => ?_) (fun _ => ?_) | refine abi_len_sl' (by assumption) ?_ | refine aixs_sln (by assumption) ?_ | refine afa_sl (by assumption) ?_ | (refine aK_sl (by assumption) (by omega) ?_; first | rintro _ ⟨rfl, _⟩ | (intro _ hx; obtain ⟨_, rfl, _, _⟩ := EvD.out hx) | (intro _ hx; obtain ⟨_, _, rfl, _, _, _⟩ := JobD.out hx) | rintro _ ⟨_, rfl, _⟩) | rw [SlR.one (by assumption)] | rw [SlR.leaf (by assumption)] | simp -implicitDefEqProofs (disch := omega) only [wrap_in, u8_small, Int.tmod_eq_emod_of_nonneg, Int.tdiv_eq_ediv_of_nonneg] | refine aK_sub (by assumption) ?_ | refine aix_strn (fun _ _ => ?_) | ((with_reducible refine adraw_seq ?_ ?_ ?_); (· kernel_rfl); (· decide +kernel)) | refine ACallK.eq (Tagged_impl _ _ _ _ (by omega)) ?_ | rw [show (i : Int) - 1 = (j : Int) by omega] | (exfalso; omega) | (simp -implicitDefEqProofs (disch := omega) only [if_neg, hblk]) | simp -implicitDefEqProofs only [go_sem, slCells_own, aapp_own] | refine And.intro (by omega) (And.intro (by omega) ?_) | refine acond_split (fun _ => ?_) (fun _ => ?_) | refine agrd_bt (fun _ => ?_) (fun _ => ?_) | refine agrd_bf (fun _ => ?_) (fun _ => ?_) | refine retK_eq ?_ | refine retK_back (by assumption) ?_ | refine retK_eq2 ?_ | refine retK_back2 (by assumption) ?_)
      all_goals first
        | (exfalso; omega)
        | exact back 1 ⟨by repeat (first | exact Sub.refl _ | assumption | refine Sub.new (by assumption) ?_ _ _ | refine Sub.kill_new (by assumption) ?_ _ _ | refine Sub.trans ?_ (by assumption)), by omega, hP.succ (by rw [keyAt_0 (by omega)]; simp only [*, decide_false, Bool.not_false, Bool.and_true])⟩
        | exact back (i + 1) ⟨by repeat (first | exact Sub.refl _ | assumption | refine Sub.new (by assumption) ?_ _ _ | refine Sub.kill_new (by assumption) ?_ _ _ | refine Sub.trans ?_ (by assumption)), by omega, hP.succ (by rw [keyAt_s hk (by omega)]; simp only [*, decide_false, Bool.not_false, Bool.and_true])⟩
        | rw [modelOk_key (m := m) (i := 0) (by omega) (by rw [keyAt_0 (by omega)]; simp only [*, decide_true, decide_false, Bool.not_true, Bool.and_false, Bool.false_and])]
        | rw [modelOk_key (m := m) (i := i) (by omega) (by rw [keyAt_s hk (by omega)]; simp only [*, decide_true, decide_false, Bool.not_true, Bool.and_false, Bool.false_and])]
        | trace_state
  · repeat' (first | simp -implicitDefEqProofs only [go_sem] | refine acond_decF (by omega) ?_ | refine acond_dec (fun _ => ?_) (fun _ => ?_) | refine acond_ndec (fun _ => ?_) (fun _ => ?_) | refine agrd_dec (fun _ => ?_) (fun _ => ?_) | refine agrd_decf (fun _ => ?_) (fun _ => ?_) | refine agrd_ndec (fun _ => ?_) (fun _ => ?_) | refine agrd_ndecf (fun _ => ?_) (fun _ => ?_) | refine abi_len_sl' (by assumption) ?_ | refine aixs_sln (by assumption) ?_ | refine afa_sl (by assumption) ?_ | (refine aK_sl (by assumption) (by omega) ?_; first | rintro _ ⟨rfl, _⟩ | (intro _ hx; obtain ⟨_, rfl, _, _⟩ := EvD.out hx) | (intro _ hx; obtain ⟨_, _, rfl, _, _, _⟩ := JobD.out hx) | rintro _ ⟨_, rfl, _⟩) | rw [SlR.one (by assumption)] | rw [SlR.leaf (by assumption)] | simp -implicitDefEqProofs (disch := omega) only [wrap_in, u8_small, Int.tmod_eq_emod_of_nonneg, Int.tdiv_eq_ediv_of_nonneg] | refine aK_sub (by assumption) ?_ | refine aix_strn (fun _ _ => ?_) | ((with_reducible refine adraw_seq ?_ ?_ ?_); (· kernel_rfl); (· decide +kernel)) | refine ACallK.eq (ContainsRow_ok _ _ m.rows _ _ (fun r => !decide (modelKind m r.key = r.kind)) _ (SlR.sub' hr) (fun cs x hx => ModelOk1_ok _ _ _ x m _ _ hx (Ob.sub' hm) hblk)) ?_ | (simp -implicitDefEqProofs (disch := omega) only [if_neg, hblk]) | simp -implicitDefEqProofs only [go_sem, slCells_own, aapp_own] | refine And.intro (by omega) (And.intro (by omega) ?_) | refine acond_split (fun _ => ?_) (fun _ => ?_) | refine agrd_bt (fun _ => ?_) (fun _ => ?_) | refine agrd_bf (fun _ => ?_) (fun _ => ?_) | refine retK_eq ?_ | refine retK_back (by assumption) ?_ | refine retK_eq2 ?_ | refine retK_back2 (by assumption) ?_)
    all_goals first
      | rw [modelOk_keys hP hge (by omega) hrep]
      | trace_state
end Go.Proofs.YtipfnhfcoolhaaaGreat.Aw
end
section
namespace Go.Proofs.YtipfnhfcoolhaaaGreat.Aw
open Go Go.RowKit
theorem Upd.left {S S' T : List Nat} {H H' : AH} (hw : H.wf) (hT : ∀ b ∈ T, (H.blk b).isSome = true) (hn : (S ++ T).Nodup) (h : Upd S H H' S') : Upd (S ++ T) H H' (S' ++ T) := by
  obtain ⟨n1, n2, n3⟩ := List.nodup_append.1 hn
  refine ⟨h.1, fun b B hb hB => h.2.1 b B (fun hm => hb (List.mem_append_left _ hm)) hB, fun b hb => ?_, List.nodup_append.2 ⟨h.2.2.2, n2, fun a ha b hb hab => ?_⟩⟩
  · rcases List.mem_append.1 hb with hb | hb
    · exact (h.2.2.1 b hb).imp (List.mem_append_left _) id
    · exact .inl (List.mem_append_right _ hb)
  · subst hab
    rcases h.2.2.1 a ha with h1 | h1
    · exact n3 a h1 a hb rfl
    · have := hw.lt' (hT a hb); omega
theorem Upd.right {S S' T : List Nat} {H H' : AH} (hw : H.wf) (hT : ∀ b ∈ T, (H.blk b).isSome = true) (hn : (T ++ S).Nodup) (h : Upd S H H' S') : Upd (T ++ S) H H' (T ++ S') := by
  obtain ⟨n1, n2, n3⟩ := List.nodup_append.1 hn
  refine ⟨h.1, fun b B hb hB => h.2.1 b B (fun hm => hb (List.mem_append_right _ hm)) hB, fun b hb => ?_, List.nodup_append.2 ⟨n1, h.2.2.2, fun a ha b hb hab => ?_⟩⟩
  · rcases List.mem_append.1 hb with hb | hb
    · exact .inl (List.mem_append_left _ hb)
    · exact (h.2.2.1 b hb).imp (List.mem_append_right _) id
  · subst hab
    rcases h.2.2.1 a hb with h1 | h1
    · exact n3 a ha a h1 rfl
    · have := hw.lt' (hT a ha); omega
theorem Upd.less {S S' S'' : List Nat} {H H' : AH} (h : Upd S H H' S') (hs : ∀ b ∈ S'', b ∈ S') (hn : S''.Nodup) : Upd S H H' S'' := ⟨h.1, h.2.1, fun b hb => h.2.2.1 b (hs b hb), hn⟩
theorem Upd.then {S S' S'' : List Nat} {H H' H'' : AH} (hw : H.wf) (h : Upd S H H' S') (k : Upd S' H' H'' S'') : Upd S H H'' S'' := h.trans hw k
theorem Upd.end {S S' : List Nat} {H H1 H' : AH} (h : Upd S H H1 S') (hs : Sub H1 H') : Upd S H H' S' := ⟨Nat.le_trans h.1 hs.1, fun b B hb hB => hs.2 b B (h.2.1 b B hb hB), h.2.2.1, h.2.2.2⟩
theorem Upd.setNew {S S' : List Nat} {H H' : AH} {b : Nat} (hw : H.wf) (h : Upd S H H' S') (hb : H.nxt ≤ b) (B : Blk) : Upd S H (H'.set b B) S' :=
  ⟨h.1, fun x B' hx hB => by rw [blk_set_ne _ (by rintro rfl; have := hw.lt hB; omega)]; exact h.2.1 x B' hx hB, h.2.2.1, h.2.2.2⟩
theorem ACallK.upd {P : Program} {W0 : World} {K : Kt} {g : FuncId} {xs : List AV} {H0 H : AH} {S : List Nat} {R : AV → AH → List Nat → Prop} (h : ACalls P W0 g xs H (fun u H' => ∃ S', R u H' S' ∧ Upd S H H' S')) (hw0 : H0.wf) (hs : Sub H0 H) (hS : ∀ b ∈ S, b < H0.nxt)
    (k : ∀ u H1 S1, H1.wf → R u H1 S1 → Upd S H0 H1 S1 → (∀ b B, H0.nxt ≤ b → H.blk b = some B → H1.blk b = some B) → H.nxt ≤ H1.nxt → (∀ b ∈ S1, b < H0.nxt ∨ H.nxt ≤ b) → (∀ b B, b ∉ S → H.blk b = some B → H1.blk b = some B) → K.k u H1) : ACallK (K := K) P W0 g xs H := by
  refine ACallK.of h.cl ?_
  rintro u H1 ⟨⟨S1, r1, g1⟩, c1⟩
  exact k u H1 S1 c1.1 r1 (g1.start hs) (fun b B hb hB => g1.2.1 b B (fun hm => by have := hS b hm; omega) hB) g1.1 (fun b hb => (g1.2.2.1 b hb).imp (hS b) id) g1.2.1
structure Hid (p : Prop) : Prop where
  out : p
theorem adraw_cut {P : Program} {W0 : World} {ops : Array Oper} {Q' : Env → AH → Prop} {e : Env} {H : AH} (Q : Env → AH → Prop) (h : Hid (adraw P W0 ops Q e H)) (k : Hid (∀ e' H', Q e' H' → Q' e' H')) : adraw P W0 ops Q' e H := adraw_mono k.out h.out
theorem ModelD.own_mk {H : AH} {vk vr : AV} {S T : List Nat} {ks : List KRowD} {rs : List RowD} (h : OwnS H S vk ks) (k : OwnS H T vr rs) : Own.own H (S ++ T) [vk, vr] (⟨ks, rs⟩ : ModelD) := ⟨vk, vr, S, T, rfl, rfl, h, k⟩
end Go.Proofs.YtipfnhfcoolhaaaGreat.Aw
end
section
namespace Go.Proofs.YtipfnhfcoolhaaaGreat.Aw
open Go Go.RowKit
set_option maxRecDepth 100000
set_option maxHeartbeats 2000000
attribute [-go_sem] wr_eq
def recDo (m : ModelD) (o : OpD) : ModelD × Int := if (modelRow m o.key).kind = 0 then (m, 2) else (⟨m.keys, rowAnew m.rows (recRow (modelRow m o.key) o.val)⟩, recCode (modelRow m o.key))
theorem recRow_B {r : RowD} (h : rowB r) {v : Int} (hv : 0 ≤ v ∧ v ≤ 65535) : rowB (recRow r v) := by
  unfold recRow
  split
  · exact counted_B h v
  · split
    · obtain ⟨h1, h2, h3, h4, h5, h6, h7, h8, h9⟩ := h
      exact ⟨h1, h2, h3, by simp only [inI64]; omega, h5, h6, h7, h8, h9⟩
    · exact sampled_B h v
theorem modelDo_rec {m : ModelD} {o : OpD} (h : modelOk m = true ∧ opOk o = true) (hk : o.kind = 2) : modelDo m o = ((recDo m o).1, (recDo m o).2, []) := by
  unfold modelDo recDo
  rw [if_neg (fun k => k h), if_neg (by omega), if_pos hk]
  by_cases hz : modelKind m o.key = 0
  · rw [if_pos hz, if_pos (by rw [modelRow_zero h.1 hz]; rfl)]
  · rw [if_neg hz, if_neg (by rw [(modelRow_ok h.1 hz).2.1]; exact hz)]
theorem modelDo_flu {m : ModelD} {o : OpD} (h : modelOk m = true ∧ opOk o = true) (hk : o.kind = 3) : modelDo m o = (⟨m.keys, []⟩, 0, m.rows) := by
  unfold modelDo
  rw [if_neg (fun k => k h), if_pos hk]
theorem modelDo_bad {m : ModelD} {o : OpD} (h : ¬ (modelOk m = true ∧ opOk o = true)) : modelDo m o = (m, 1, []) := by
  unfold modelDo
  rw [if_pos h]
theorem opOk_val {o : OpD} (h : opOk o = true) (hk : o.kind = 2) : 0 ≤ o.val ∧ o.val ≤ 65535 := by
  unfold opOk at h
  rw [if_neg (by omega), if_pos hk] at h
  simp only [Bool.and_eq_true, decide_eq_true_eq] at h
  exact h.2
def MdR (W0 : World) (H : AH) (m : ModelD) (o : OpD) (r : AV) (H' : AH) : Prop := ∃ c' v, r = .tup [.agg c', .v (.int .i64 (modelDo m o).2.1), v] ∧ Sub H H' ∧ ∃ S T, Own.own H' S c' (modelDo m o).1 ∧ OwnS H' T v (modelDo m o).2.2 ∧ Fresh H.nxt (S ++ T)
end Go.Proofs.YtipfnhfcoolhaaaGreat.Aw
end
section
namespace Go.Proofs.YtipfnhfcoolhaaaGreat.Aw
open Go Go.RowKit
set_option maxRecDepth 100000
set_option maxHeartbeats 2000000
attribute [-go_sem] wr_eq
section
variable {P : Program} {W0 : World}
theorem asl3_slc {K : Kt} {H : AH} {t : TypeId} {g : Bool} {s by' : Nat} {z : List Value} {b o n c : Nat} {cs : List AV} {l h m : Nat} (hi : (elt P t).bind (tyi P) = some ⟨g, s, by', z⟩) (hB : H.blk b = some ⟨cs, s⟩) (h1 : l ≤ h) (h2 : h ≤ m) (h3 : m ≤ c)
    (k : K.k (.slc b (o + l * s) (h - l) (m - l)) H) : asl3 (K := K) P W0 t (.slc b o n c) (some (.v (.int .i64 l))) (some (.v (.int .i64 h))) (.v (.int .i64 m)) H := by
  simp only [asl3, hi, aslc3, aslice3, Option.bind_some, boundA]
  rw [hB]
  exact ⟨rfl, by omega, by omega, by omega, by omega, by simpa only [Int.toNat_natCast] using k⟩
end
theorem DeleteRow_ok (W0 : World) (v : AV) (l : List RowD) (i : Nat) (S : List Nat) (H : AH) (ho : OwnS H S v l) (hi : i < l.length) (hl : l.length ≤ 1000000) :
    ACalls Tryz.prog W0 218 [v, .v (.int .i64 i), .v (.int .i64 (i + 1 : Nat))] H (fun u H' => ∃ S', OwnS H' S' u (l.take i ++ l.drop (i + 1)) ∧ Upd S H H' S') := by
  rcases ho.flat with ⟨rfl, rfl, rfl⟩ | ⟨b, o, cs, rfl, hB, hle, hbig, rfl, hcs, hok⟩
  · simp at hi
  refine ACalls.wk (R := fun u H' => ∃ u' S', Wk u u' ∧ OwnS H' S' u' (l.take i ++ l.drop (i + 1)) ∧ Upd [b] H H' S') (acalls_cap (by kernel_rfl) hB hle fun c k hnc hck => ?_) (fun u H' ⟨u', S', k1, k2, k3⟩ => ⟨u', k1, S', k2, k3⟩)
  have hok1 : ∀ x ∈ l.take i, Flat.ok x := fun x hx => hok x (List.mem_of_mem_take hx)
  have hok2 : ∀ x ∈ l.drop (i + 1), Flat.ok x := fun x hx => hok x (List.mem_of_mem_drop hx)
  have hoks : ∀ x ∈ l.take i ++ l.drop (i + 1), Flat.ok x := fun x hx => (List.mem_append.1 hx).elim (hok1 x) (hok2 x)
  have hE1 : (encL (l.take i)).length = i * 10 := by rw [encL_len hok1]; simp [Ob.n]; omega
  have hE2 : (encL (l.drop (i + 1))).length = (l.length - (i + 1)) * 10 := by rw [encL_len hok2]; simp [Ob.n]
  have hEm : (Flat.enc l[i]).length = 10 := enc_len (hok _ (List.getElem_mem hi))
  have hEE : encL l = encL (l.take i) ++ (Flat.enc l[i] ++ encL (l.drop (i + 1))) := by rw [← encL_cons, ← encL_append, ← List.drop_eq_getElem_cons hi, List.take_append_drop]
  have hER : encL (l.take i ++ l.drop (i + 1)) = encL (l.take i) ++ encL (l.drop (i + 1)) := by rw [encL_append]
  have hlen : (l.take i ++ l.drop (i + 1)).length = l.length - 1 := by simp; omega
  simp only [Ob.n] at hB hle hcs hck
  obtain ⟨A, D, hCS, hA, hDl⟩ : ∃ A D, cs ++ List.replicate k AV.dead = A ++ (encL (l.take i) ++ (Flat.enc l[i] ++ (encL (l.drop (i + 1)) ++ D))) ∧ A.length = o ∧ o + c * 10 ≤ o + l.length * 10 + D.length := by
    obtain ⟨A, B, C, h1, h2, h3, h4⟩ := cut3 hle
    refine ⟨A, C ++ List.replicate k AV.dead, ?_, h2, ?_⟩
    · have : encL (l.take i) ++ (Flat.enc l[i] ++ (encL (l.drop (i + 1)) ++ (C ++ List.replicate k AV.dead))) = encL l ++ (C ++ List.replicate k AV.dead) := by rw [hEE]; simp
      rw [this, ← hcs, ← h3, h1]; simp
    · have := congrArg List.length h1
      simp only [List.length_append, List.length_replicate] at this hck ⊢
      omega
  rw [show (Ob.n RowD) = 10 from rfl, hCS]
  have hmul : (l.length - (i + 1)) * 10 = l.length * 10 - (i + 1) * 10 := Nat.sub_mul ..
  have hile : (i + 1) * 10 ≤ l.length * 10 := Nat.mul_le_mul_right _ hi
  have hCl : (A ++ (encL (l.take i) ++ (Flat.enc l[i] ++ (encL (l.drop (i + 1)) ++ D)))).length = o + l.length * 10 + D.length := by
    simp only [List.length_append, hA, hE1, hE2, hEm]
    omega
  generalize hgc : A ++ (encL (l.take i) ++ (Flat.enc l[i] ++ (encL (l.drop (i + 1)) ++ D))) = CS at *
  have hsrc : ∀ (H' : AH), H'.blk b = some ⟨CS, 10⟩ → ∀ q, slCells W0 H' 10 (l.length - (i + 1)) (.slc b (o + (i + 1) * 10) (l.length - (i + 1)) q) = some (encL (l.drop (i + 1))) := by
    intro H' h q
    have h1 : o + (i + 1) * 10 + (l.length - (i + 1)) * 10 ≤ CS.length := by rw [hCl]; omega
    simp only [slCells, Nat.le_refl, if_true, h, Option.bind_some, true_and]
    rw [if_pos h1, ← hgc, ← List.append_assoc, ← List.append_assoc, dt_mid (by simp only [List.length_append, hA, hE1, hEm]; omega) hE2]
  obtain ⟨E1, E2, hE, e1, e2⟩ : ∃ E1 E2, Flat.enc l[i] ++ encL (l.drop (i + 1)) = E1 ++ E2 ∧ E1.length = (l.length - (i + 1)) * 10 ∧ E2.length = 10 := by
    refine ⟨(Flat.enc l[i] ++ encL (l.drop (i + 1))).take ((l.length - (i + 1)) * 10), (Flat.enc l[i] ++ encL (l.drop (i + 1))).drop ((l.length - (i + 1)) * 10), (List.take_append_drop _ _).symm, ?_, ?_⟩ <;> simp only [List.length_take, List.length_drop, List.length_append, hEm, hE2] <;> omega
  have hCS2 : CS = A ++ (encL (l.take i) ++ (E1 ++ (E2 ++ D))) := by
    rw [← hgc]
    have : Flat.enc l[i] ++ (encL (l.drop (i + 1)) ++ D) = E1 ++ (E2 ++ D) := by rw [← List.append_assoc, hE, List.append_assoc]
    rw [this]
  have w1 : wr CS (o + i * 10) (encL (l.drop (i + 1))) = A ++ (encL (l.take i) ++ (encL (l.drop (i + 1)) ++ (E2 ++ D))) := by
    have h := wr_at (A := A ++ encL (l.take i)) (B := E1) (C := E2 ++ D) (p := o + i * 10) (by simp only [List.length_append, hA, hE1]) (cs := encL (l.drop (i + 1))) (hE2.trans e1.symm)
    rw [hCS2]; simpa using h
  refine acallw Tryz.func218 rfl (by kernel_rfl) (by kernel_rfl) fun hc hw => ?_
  obtain ⟨z, hz, hty⟩ : ∃ z : List Value, (z.length = 10 ∧ z.all leafV = true) ∧ (elt Tryz.prog 24).bind (tyi Tryz.prog) = some ⟨true, 10, 88, z⟩ := ⟨_, ⟨rfl, rfl⟩, by rw [elt_24, Option.bind_some]; exact tyi_71⟩
  have hj : ((i + 1 : Nat) : Int).toNat = i + 1 := by omega
  have hii : ¬ ((i : Int) = ((i + 1 : Nat) : Int)) := by omega
  repeat' (first | simp -implicitDefEqProofs only [go_sem] | (refine asl3_slc hty (blk_set_self _ _ _) (Nat.le_succ _) hi hnc ?_) | (simp only [Int.toNat_natCast, Nat.sub_zero]) | (refine app_slc (blk_set_self _ _ _) (hsrc _ (blk_set_self _ _ _) _) rfl (all_encL hok2) (by rw [hCl]; omega) (by omega) (by omega) (fun _ => ?_) (fun _ => by exfalso; omega)) | refine acond_decF (by omega) ?_ | ((with_reducible refine adraw_seq ?_ ?_ ?_); (· kernel_rfl); (· decide +kernel)) | (with_reducible refine And.intro (by omega) ?_) | fail)
  have hn1 : i + (l.length - (i + 1)) = l.length - 1 := by omega
  have hn2 : l.length - (l.length - 1) = 1 := by omega
  have hZl : (zerosA z 1).length = 10 := by rw [zerosA_length, hz.1]
  have w2 : wr (A ++ (encL (l.take i) ++ (encL (l.drop (i + 1)) ++ (E2 ++ D)))) (o + (l.length - 1) * 10) (zerosA z 1) = A ++ ((encL (l.take i) ++ encL (l.drop (i + 1))) ++ (zerosA z 1 ++ D)) := by
    have h := wr_at (A := A ++ encL (l.take i) ++ encL (l.drop (i + 1))) (B := E2) (C := D) (p := o + (l.length - 1) * 10) (by simp only [List.length_append, hA, hE1, hE2]; omega) (cs := zerosA z 1) (hZl.trans e2.symm)
    simpa using h
  have hCl2 : (A ++ (encL (l.take i) ++ (encL (l.drop (i + 1)) ++ (E2 ++ D)))).length = o + l.length * 10 + D.length := by
    simp only [List.length_append, hA, hE1, hE2, e2]; omega
  rw [hn1, hn2, w1, set_set]
  simp only [abi, abuiltin, hty, slBlk]
  rw [blk_set_self]
  refine ⟨rfl, hz.1, hz.2, by rw [hCl2]; omega, ?_⟩
  simp only
  rw [w2, set_set]
  repeat' (first | simp -implicitDefEqProofs only [go_sem])
  refine retK_one ⟨_, [b], Wk.slc _ _ _ _, OwnS.ofFlat (cs := A ++ ((encL (l.take i) ++ encL (l.drop (i + 1))) ++ (zerosA z 1 ++ D))) (by simp only [go_sem]; rfl) ?_ ?_ (by simp only [big]; omega) hoks (by omega), Nat.le_refl _, ?_, fun x hx => .inl hx, by simp⟩
  · rw [← hER]; exact dt_mid hA (encL_len hoks)
  · rw [← hER]
    have h2 := encL_len hoks
    revert h2
    generalize encL (_ ++ l.drop (i + 1)) = X
    intro h2
    rw [hlen] at h2 ⊢
    rw [show (A ++ (X ++ (zerosA z 1 ++ D))).length = o + (X.length + (zerosA z 1 ++ D).length) by rw [List.length_append, List.length_append, hA], h2]; omega
  · intro x B hx hB2
    have hxb : x ≠ b := by simpa using hx
    simp only [go_sem, if_neg hxb, hB2]
end Go.Proofs.YtipfnhfcoolhaaaGreat.Aw
end
section
namespace Go.Proofs.YtipfnhfcoolhaaaGreat.Aw
open Go Go.RowKit
set_option maxRecDepth 100000
set_option maxHeartbeats 2000000
attribute [-go_sem] wr_eq
theorem overKRowD_ok (W0 : World) {a1 a2 : AV} {H : AH} {b o n b' o' n' : Nat} {B B' : Blk} (h1 : slBlk a1 = some (b, o, n)) (h2 : slBlk a2 = some (b', o', n')) (hne : b ≠ b') (hB : H.blk b = some B) (hB' : H.blk b' = some B') : AExt Tryz.prog W0 219 [a1, a2] H (fun v H' => v = .v (.bool false) ∧ H' = H) :=
  over_ext (fn := Tryz.f219) (t := 23) (el := 83) Tryz.func219 (by kernel_rfl) (by kernel_rfl) (by kernel_rfl) (by kernel_rfl) (by kernel_rfl) elt_23 tyi_83 h1 h2 hne hB hB'
theorem InsertKRowD_ok (W0 : World) (v : AV) (l : List KRowD) (r : KRowD) (i bv : Nat) (S : List Nat) (H : AH) (ho : OwnS H S v l) (hi : i ≤ l.length) (hl : l.length ≤ 1000000) (hr : Flat.ok r) (hbv : H.blk bv = some ⟨Flat.enc r, 2⟩) (hd : bv ∉ S) :
    ACalls Tryz.prog W0 136 [v, .v (.int .i64 i), .sl bv 0 1] H (fun u H' => ∃ S', OwnS H' S' u (l.take i ++ r :: l.drop i) ∧ Upd S H H' S') := by
  have hrl : (Flat.enc r).length = 2 := enc_len hr
  have hleaf : (Flat.enc r).all leafA = true := by have := all_encL (xs := [r]) (by simpa using hr); simpa [encL] using this
  have hoks : (∀ x ∈ l, Flat.ok x) → ∀ x ∈ l.take i ++ r :: l.drop i, Flat.ok x := by
    intro h x hx
    rcases List.mem_append.1 hx with hx | hx
    · exact h x (List.mem_of_mem_take hx)
    · rcases List.mem_cons.1 hx with rfl | hx
      · exact hr
      · exact h x (List.mem_of_mem_drop hx)
  have hlen : (l.take i ++ r :: l.drop i).length = l.length + 1 := by simp; omega
  have hnew : ∀ (H' : AH), H'.blk bv = some ⟨Flat.enc r, 2⟩ → slCells W0 H' 2 1 (.sl bv 0 1) = some (Flat.enc r) := by
    intro H' h
    simp only [slCells, Nat.le_refl, if_true, h, Option.bind_some, Nat.zero_add, Nat.one_mul, true_and, hrl, List.drop_zero]
    rw [List.take_of_length_le (by omega)]
  rcases ho.flat with ⟨rfl, rfl, rfl⟩ | ⟨b, o, cs, rfl, hB, hle, hbig, rfl, hcs, hok⟩
  · have hi0 : i = 0 := by simpa using hi
    subst hi0
    refine acallw Tryz.func136 rfl (by kernel_rfl) (by kernel_rfl) fun hc hw => ?_
    repeat' (first | simp -implicitDefEqProofs only [go_sem] | (refine app_nil (hnew _ (by assumption)) rfl hleaf (by decide) (fun h => absurd h (by decide)) (fun _ => ?_)) | refine acond_decF (by omega) ?_ | (with_reducible refine And.intro (by omega) ?_) | refine And.intro (by omega) (And.intro (by omega) ?_) | fail)
    refine retK_one ⟨[H.nxt], OwnS.ofFlat (cs := Flat.enc r) (by simp only [go_sem]; rfl) ?_ ?_ (by simp [big]) (by simpa using hr) rfl, Upd.ofSub (Sub.new hw (Sub.refl _) _ _) ⟨by simp, by simp⟩⟩
    · simp only [List.drop_zero, List.length_singleton, Nat.one_mul, encL, List.map_cons, List.map_nil, List.flatten_cons, List.flatten_nil, List.append_nil]; exact List.take_of_length_le (Nat.le_of_eq hrl)
    · simp [Ob.n, hrl]
  have hbne : bv ≠ b := by simpa using hd
  refine ACalls.wk (R := fun u H' => ∃ u' S', Wk u u' ∧ OwnS H' S' u' (l.take i ++ r :: l.drop i) ∧ Upd [b] H H' S') (acalls_cap (by kernel_rfl) hB hle fun c k hnc hck => ?_) (fun u H' ⟨u', S', k1, k2, k3⟩ => ⟨u', k1, S', k2, k3⟩)
  have hE1 : (encL (l.take i)).length = i * 2 := by rw [encL_len (fun x hx => hok x (List.mem_of_mem_take hx))]; simp [Ob.n]; omega
  have hE2 : (encL (l.drop i)).length = (l.length - i) * 2 := by rw [encL_len (fun x hx => hok x (List.mem_of_mem_drop hx))]; simp [Ob.n]
  have hok1 : ∀ x ∈ l.take i, Flat.ok x := fun x hx => hok x (List.mem_of_mem_take hx)
  have hok2 : ∀ x ∈ l.drop i, Flat.ok x := fun x hx => hok x (List.mem_of_mem_drop hx)
  have hEE : encL l = encL (l.take i) ++ encL (l.drop i) := by rw [← encL_append, List.take_append_drop]
  have hER : encL (l.take i ++ r :: l.drop i) = encL (l.take i) ++ (Flat.enc r ++ encL (l.drop i)) := by rw [encL_append, encL_cons]
  simp only [Ob.n] at hB hle hcs hck
  obtain ⟨A, D, hCS, hA, hDl⟩ : ∃ A D, cs ++ List.replicate k AV.dead = A ++ (encL (l.take i) ++ (encL (l.drop i) ++ D)) ∧ A.length = o ∧ o + c * 2 ≤ o + l.length * 2 + D.length := by
    obtain ⟨A, B, C, h1, h2, h3, h4⟩ := cut3 hle
    refine ⟨A, C ++ List.replicate k AV.dead, ?_, h2, ?_⟩
    · rw [← List.append_assoc (encL _), ← hEE, ← hcs, ← h3, h1]; simp
    · have := congrArg List.length h1
      simp only [List.length_append, List.length_replicate] at this hck ⊢
      omega
  rw [show (Ob.n KRowD) = 2 from rfl, hCS]
  have hCl : (A ++ (encL (l.take i) ++ (encL (l.drop i) ++ D))).length = o + l.length * 2 + D.length := by
    simp only [List.length_append, hA, hE1, hE2, Nat.sub_mul]
    have : i * 2 ≤ l.length * 2 := Nat.mul_le_mul_right _ hi
    omega
  generalize hgc : A ++ (encL (l.take i) ++ (encL (l.drop i) ++ D)) = CS at *
  have hsrc : ∀ (H' : AH), H'.blk b = some ⟨CS, 2⟩ → ∀ q, slCells W0 H' 2 (l.length - i) (.slc b (o + i * 2) (l.length - i) q) = some (encL (l.drop i)) := by
    intro H' h q
    have h1 : o + i * 2 + (l.length - i) * 2 ≤ CS.length := by rw [hCl, Nat.sub_mul]; have : i * 2 ≤ l.length * 2 := Nat.mul_le_mul_right _ hi; omega
    simp only [slCells, Nat.le_refl, if_true, h, Option.bind_some, true_and]
    rw [if_pos h1, ← hgc, ← List.append_assoc, dt_mid (by simp [hA, hE1]) hE2]
  refine acallw Tryz.func136 rfl (by kernel_rfl) (by kernel_rfl) fun hc hw => ?_
  rcases Nat.lt_or_ge i l.length with hlt | hge
  · have hwr : IntKind.i64.wrap ((l.length : Int) + ((1 : Nat) : Int)) = ((l.length + 1 : Nat) : Int) := by rw [wrap_in _ (by omega) (by omega)]; simp
    have hwi : IntKind.i64.wrap ((i : Int) + ((1 : Nat) : Int)) = ((i + 1 : Nat) : Int) := by rw [wrap_in _ (by omega) (by omega)]; simp
    have hwm : IntKind.i64.wrap (((l.length + 1 : Nat) : Int) - (i : Int)) = ((l.length + 1 - i : Nat) : Int) := by rw [wrap_in _ (by omega) (by omega)]; omega
    have hln : i + (l.length + 1 - i) = l.length + 1 := by omega
    obtain ⟨z, hz, hty⟩ : ∃ z, z.length = 2 ∧ tyi Tryz.prog 83 = some ⟨true, 2, 24, z⟩ := ⟨_, rfl, tyi_83⟩
    have htk : (CS.drop o).take (i * 2) = encL (l.take i) := by rw [← hgc, ← hA, List.drop_left, ← hE1, List.take_left]
    obtain ⟨Z1, Z2, hZ, hZ1, hZ2⟩ : ∃ Z1 Z2, (CS.drop o).take (i * 2) ++ zerosA z (l.length + 1 - i) = encL (l.take i) ++ (Z1 ++ Z2) ∧ Z1.length = 2 ∧ Z2.length = (l.length - i) * 2 := by
      refine ⟨(zerosA z (l.length + 1 - i)).take 2, (zerosA z (l.length + 1 - i)).drop 2, by rw [htk, List.take_append_drop], ?_, ?_⟩ <;> simp only [List.length_take, List.length_drop, zerosA_length, hz]
      · rw [Nat.min_eq_left]; rw [show l.length + 1 - i = (l.length - i) + 1 by omega, Nat.add_mul]; omega
      · rw [show l.length + 1 - i = (l.length - i) + 1 by omega, Nat.add_mul]; omega
    have hm1 : min 1 (l.length + 1 - i) = 1 := by omega
    have hm2 : min (l.length - i) (l.length + 1 - (i + 1)) = l.length - i := by omega
    have hwr2 : ∀ Z : List AV, Z.length = (l.length - i) * 2 → wr (encL (l.take i) ++ (Flat.enc r ++ Z)) ((i + 1) * 2) (encL (l.drop i)) = encL (l.take i) ++ (Flat.enc r ++ encL (l.drop i)) := fun Z hZl => by
      have h := wr_at (A := encL (l.take i) ++ Flat.enc r) (B := Z) (C := []) (p := (i + 1) * 2) (by rw [List.length_append, hE1, hrl, Nat.add_mul, Nat.one_mul]) (cs := encL (l.drop i)) (hE2.trans hZl.symm)
      simpa using h
    have hbvn : bv ≠ H.nxt := fun h => by have h2 := hw.lt ((blk_set_ne H hbne ⟨CS, 2⟩).trans hbv); rw [h] at h2; exact absurd h2 (Nat.lt_irrefl _)
    have hbm : b ≠ H.nxt := fun h => by have h2 := hw.lt (blk_set_self H b ⟨CS, 2⟩); rw [h] at h2; exact absurd h2 (Nat.lt_irrefl _)
    repeat' (first | simp -implicitDefEqProofs only [go_sem] | (rw [hwr]) | (rw [hwi]) | (rw [hwm]) | (simp only [Nat.sub_zero, Int.toNat_natCast]) | refine acond_decF (by omega) ?_ | refine acond_dec (fun _ => ?_) (fun _ => ?_) | (with_reducible refine And.intro (by omega) ?_) | fail)
    · refine appz_slc hty (blk_set_self _ _ _) (by simp only; omega) (by omega) (by simp only; omega) (by omega) ?_ (by simp only; decide) (by simp only; decide) hz
      simp only [hln, hZ]
      repeat' (first | simp -implicitDefEqProofs only [go_sem] | (with_reducible refine And.intro (by omega) ?_) | fail)
      refine copy_rule (cs := encL (l.take i) ++ (Z1 ++ Z2)) (new := Flat.enc r) ?_ ?_ hleaf ?_ ?_
      · simp only [go_sem]
      · rw [hm1]; exact hnew _ (by simp only [go_sem, if_neg hbvn, if_neg hbne, hbv])
      · simp only [List.length_append, hE1, hZ1, hZ2, Nat.sub_mul, Nat.add_mul]
        have : i * 2 ≤ l.length * 2 := Nat.mul_le_mul_right _ hi
        omega
      rw [wr_at hE1 (hrl.trans hZ1.symm)]
      repeat' (first | simp -implicitDefEqProofs only [go_sem] | (simp only [if_neg hbm]) | (rw [hwi]) | (simp only [Int.toNat_natCast, hln]) | ((with_reducible refine adraw_seq ?_ ?_ ?_); (· kernel_rfl); (· decide +kernel)) | (with_reducible refine And.intro (by omega) ?_) | fail)
      refine copy_rule (cs := encL (l.take i) ++ (Flat.enc r ++ Z2)) (new := encL (l.drop i)) ?_ ?_ (all_encL hok2) ?_ ?_
      · simp only [go_sem]
      · rw [hm2]; exact hsrc _ (by simp only [go_sem, if_neg hbm]) _
      · simp only [List.length_append, hE1, hrl, hZ2, Nat.sub_mul, Nat.add_mul]
        have : i * 2 ≤ l.length * 2 := Nat.mul_le_mul_right _ hi
        omega
      rw [hwr2 _ hZ2]
      repeat' (first | simp -implicitDefEqProofs only [go_sem])
      refine retK_one ⟨_, [H.nxt], Wk.refl _, OwnS.ofFlat (cs := encL (l.take i) ++ (Flat.enc r ++ encL (l.drop i))) (by simp only [go_sem]; rfl) ?_ ?_ (by simp only [big]; omega) (hoks hok) (by omega), Nat.le_succ _, ?_, ?_, by simp⟩
      · rw [← hER, List.drop_zero]; exact List.take_of_length_le (by rw [encL_len (hoks hok)]; exact Nat.le_refl _)
      · rw [← hER, encL_len (hoks hok)]; omega
      · intro x B hx hB2
        have hxb : x ≠ b := by simpa using hx
        have hxn : x ≠ H.nxt := fun h => by have h2 := hw.lt ((blk_set_ne H hxb ⟨CS, 2⟩).trans hB2); rw [h] at h2; exact absurd h2 (Nat.lt_irrefl _)
        simp only [go_sem, if_neg hxb, if_neg hxn, hB2]
      · intro x hx; exact .inr (by simp at hx; omega)
    · refine ACallK.ofE (overKRowD_ok _ rfl rfl hbne (by rw [blk_set_ne _ hbne]; exact hbv) (blk_set_self _ _ _)) ?_
      rintro _ _ ⟨rfl, rfl⟩
      have hcn : l.length + 1 ≤ c := by omega
      obtain ⟨E1, E2, E3, hE, e1, -, e3⟩ := cut3 (L := encL (l.drop i) ++ D) (o := 2) (m := (l.length - i) * 2) (by rw [List.length_append, hE2]; omega)
      have hCS2 : CS = A ++ (encL (l.take i) ++ (E1 ++ (E2 ++ E3))) := by rw [← hgc, hE]
      have w1 : wr CS (o + (i + 1) * 2) (encL (l.drop i)) = A ++ (encL (l.take i) ++ (E1 ++ (encL (l.drop i) ++ E3))) := by
        have h := wr_at (A := A ++ encL (l.take i) ++ E1) (B := E2) (C := E3) (p := o + (i + 1) * 2) (by simp only [List.length_append, hA, hE1, e1, Nat.add_mul]; omega) (cs := encL (l.drop i)) (hE2.trans e3.symm)
        rw [hCS2]; simpa using h
      have w2 : wr (A ++ (encL (l.take i) ++ (E1 ++ (encL (l.drop i) ++ E3)))) (o + i * 2) (Flat.enc r) = A ++ ((encL (l.take i) ++ (Flat.enc r ++ encL (l.drop i))) ++ E3) := by
        have h := wr_at (A := A ++ encL (l.take i)) (B := E1) (C := encL (l.drop i) ++ E3) (p := o + i * 2) (by simp only [List.length_append, hA, hE1]) (cs := Flat.enc r) (hrl.trans e1.symm)
        simpa using h
      have hsrc2 : slCells W0 (H.set b ⟨CS, 2⟩) 2 (l.length - i) (.slc b (o + i * 2) (l.length + 1 - i) (c - i)) = some (encL (l.drop i)) := by
        have h1 : o + i * 2 + (l.length - i) * 2 ≤ CS.length := by rw [hCl, Nat.sub_mul]; have : i * 2 ≤ l.length * 2 := Nat.mul_le_mul_right _ hi; omega
        simp only [slCells, blk_set_self, Option.bind_some, true_and]
        rw [if_pos (by omega), if_pos h1, ← hgc, ← List.append_assoc, dt_mid (by simp [hA, hE1]) hE2]
      have hm3 : min (l.length + 1 - i) (l.length + 1 - (i + 1)) = l.length - i := by omega
      have hm4 : min 1 (l.length + 1 - i) = 1 := by omega
      have hlC := congrArg List.length w1
      repeat' (first | simp -implicitDefEqProofs only [go_sem] | (rw [hwi]) | (simp only [Int.toNat_natCast, hln, Nat.sub_zero]) | ((with_reducible refine adraw_seq ?_ ?_ ?_); (· kernel_rfl); (· decide +kernel)) | (with_reducible refine And.intro (by omega) ?_) | fail)
      refine copy_rule (cs := CS) (new := encL (l.drop i)) (blk_set_self _ _ _) (by rw [hm3]; exact hsrc2) (all_encL hok2) ?_ ?_
      · rw [hCl, Nat.sub_mul, Nat.add_mul]; omega
      rw [w1]
      repeat' (first | simp -implicitDefEqProofs only [go_sem] | (with_reducible refine And.intro (by omega) ?_) | fail)
      refine copy_rule (cs := A ++ (encL (l.take i) ++ (E1 ++ (encL (l.drop i) ++ E3)))) (new := Flat.enc r) (blk_set_self _ _ _) (by rw [hm4]; exact hnew _ (by simp only [go_sem, if_neg hbne, hbv])) hleaf ?_ ?_
      · have : i * 2 ≤ l.length * 2 := Nat.mul_le_mul_right _ hi
        rw [← w1, wr_length _ _ _ (by rw [hCl, hE2, Nat.sub_mul, Nat.add_mul]; omega), hCl, Nat.sub_mul, Nat.add_mul]
        omega
      rw [w2]
      repeat' (first | simp -implicitDefEqProofs only [go_sem])
      refine retK_one ⟨_, [b], Wk.slc _ _ _ _, OwnS.ofFlat (cs := A ++ ((encL (l.take i) ++ (Flat.enc r ++ encL (l.drop i))) ++ E3)) (by simp only [go_sem]; rfl) ?_ ?_ (by simp only [big]; omega) (hoks hok) (by omega), Nat.le_refl _, ?_, fun x hx => .inl hx, by simp⟩
      · rw [← hER]; exact dt_mid hA (encL_len (hoks hok))
      · rw [← hER]
        have h2 := encL_len (hoks hok)
        revert h2
        generalize encL (_ ++ r :: _) = X
        intro h2
        rw [show (A ++ (X ++ E3)).length = o + (X.length + E3.length) by rw [List.length_append, List.length_append, hA], h2]; omega
      · intro x B hx hB2
        have hxb : x ≠ b := by simpa using hx
        simp only [go_sem, if_neg hxb, hB2]
  · have hie : i = l.length := by omega
    have htl : l.take i = l := by rw [hie]; exact List.take_of_length_le (Nat.le_refl _)
    have hdl : l.drop i = [] := by rw [hie]; exact List.drop_of_length_le (Nat.le_refl _)
    rw [htl, hdl] at hER
    rw [htl] at hE1
    repeat' (first | simp -implicitDefEqProofs only [go_sem] | (refine app_slc (blk_set_self _ _ _) (hnew _ (by rw [blk_set_ne _ hbne]; exact hbv)) rfl hleaf (by omega) (by omega) (by omega) (fun hcn => ?_) (fun hcn => ?_)) | refine acond_decF (by omega) ?_ | refine acond_decT (by omega) ?_ | (with_reducible refine And.intro (by omega) ?_) | fail)
    · obtain ⟨E1, E3, hE, e1⟩ := cut2 (L := D) (m := 2) (by omega)
      have w1 : wr CS (o + l.length * 2) (Flat.enc r) = A ++ ((encL l ++ (Flat.enc r ++ encL ([] : List KRowD))) ++ E3) := by
        have h := wr_at (A := A ++ encL l) (B := E1) (C := E3) (p := o + l.length * 2) (by simp only [List.length_append, hA, hE1, hie]) (cs := Flat.enc r) (hrl.trans e1.symm)
        rw [← hgc, htl, hdl, hE]; simpa [encL] using h
      rw [w1, htl, hdl]
      rw [htl, hdl] at hoks hlen
      refine retK_one ⟨_, [b], Wk.slc _ _ _ _, OwnS.ofFlat (cs := A ++ ((encL l ++ (Flat.enc r ++ encL ([] : List KRowD))) ++ E3)) (by simp only [go_sem]; rfl) ?_ ?_ (by simp only [big]; omega) (hoks hok) (by omega), Nat.le_refl _, ?_, fun x hx => .inl hx, by simp⟩
      · rw [← hER]; exact dt_mid hA (encL_len (hoks hok))
      · rw [← hER]
        have h2 := encL_len (hoks hok)
        revert h2
        generalize encL (_ ++ r :: _) = X
        intro h2
        rw [show (A ++ (X ++ E3)).length = o + (X.length + E3.length) by rw [List.length_append, List.length_append, hA], h2]; omega
      · intro x B hx hB2
        have hxb : x ≠ b := by simpa using hx
        simp only [go_sem, if_neg hxb, hB2]
    · have htk : (CS.drop o).take (l.length * 2) = encL l := by rw [← hgc, ← hA, List.drop_left, htl, ← (show (encL l).length = l.length * 2 by rw [hE1, hie]), List.take_left]
      have hcs3 : encL l ++ Flat.enc r = encL (l ++ r :: []) := by rw [hER]; simp [encL]
      rw [htk, htl, hdl, hcs3]
      rw [htl, hdl] at hoks hlen
      refine retK_one ⟨_, [H.nxt], Wk.refl _, OwnS.ofFlat (cs := encL (l ++ r :: [])) (by simp only [go_sem]; rfl) ?_ ?_ (by simp only [big]; omega) (hoks hok) (by omega), Nat.le_succ _, ?_, ?_, by simp⟩
      · rw [List.drop_zero]; exact List.take_of_length_le (by rw [encL_len (hoks hok)]; exact Nat.le_refl _)
      · rw [encL_len (hoks hok)]; omega
      · intro x B hx hB2
        have hxb : x ≠ b := by simpa using hx
        have hxn : x ≠ H.nxt := fun h => by have h2 := hw.lt ((blk_set_ne H hxb ⟨CS, 2⟩).trans hB2); rw [h] at h2; exact absurd h2 (Nat.lt_irrefl _)
        simp only [go_sem, if_neg hxb, if_neg hxn, hB2]
      · intro x hx; exact .inr (by simp at hx; omega)
end Go.Proofs.YtipfnhfcoolhaaaGreat.Aw
end
