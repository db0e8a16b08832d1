/- The reports that are told: both packages. -/
import Derived.Test.YthcjolappblieaaFl2
namespace Go.Proofs.Ythcjolappblieaa.Aw
open Go Go.RowKit
set_option linter.unusedVariables false
set_option linter.unusedSimpArgs false
set_option maxRecDepth 100000
set_option maxHeartbeats 2000000
attribute [-go_sem] wr_eq
section
variable {P : Program} {W0 : World}
/-- The elements of a list from the i-th on, and what they own. -/
def Rest {α : Type} [Ob α] [Own α] (H : AH) (v : AV) (xs : List α) (i : Nat) (B : List Nat) : Prop :=
  ∃ b o cs, v = .sl b o xs.length ∧ H.blk b = some ⟨cs, Ob.n α⟩ ∧ o + xs.length * Ob.n α ≤ cs.length ∧ Owns H B (((cs.drop o).take (xs.length * Ob.n α)).drop (i * Ob.n α)) (xs.drop i)
theorem Rest.start {α : Type} [Ob α] [Own α] {H : AH} {S : List Nat} {v : AV} {xs : List α} (h : OwnS H S v xs) (hx : 0 < xs.length) : ∃ b B, S = b :: B ∧ Rest H v xs 0 B := by
  rcases h with ⟨-, rfl, -⟩ | ⟨b, o, cs, T, rfl, hB, ho, hb, rfl, hO⟩
  · simp at hx
  · exact ⟨b, T, rfl, b, o, cs, rfl, hB, ho, by simpa using hO⟩
theorem Rest.step {α : Type} [Ob α] [Own α] {H : AH} {v : AV} {xs : List α} {i : Nat} {B : List Nat} (h : Rest H v xs i B) (hi : i < xs.length) : ∃ c S2 B', B = S2 ++ B' ∧ Own.own H S2 c xs[i] ∧ Rest H v xs (i + 1) B' ∧ ∀ {W0 : World} {H' : AH}, Sub H H' → rdCells W0 H' (Ob.n α) (ixF (Ob.n α) v i 0) = some c := by
  obtain ⟨b, o, cs, rfl, hB, ho, hO⟩ := h
  rw [List.drop_eq_getElem_cons hi] at hO
  generalize hC : ((cs.drop o).take (xs.length * Ob.n α)).drop (i * Ob.n α) = C at hO
  cases hO with
  | @cons S2 B' c C' x xs' hown hrest =>
    have hcl : c.length = Ob.n α := Ob.len (Own.rep (W0 := default) hown)
    have hle : (i + 1) * Ob.n α ≤ xs.length * Ob.n α := Nat.mul_le_mul_right _ hi
    rw [Nat.add_mul, Nat.one_mul] at hle
    refine ⟨c, S2, B', rfl, hown, ⟨b, o, cs, rfl, hB, ho, ?_⟩, fun {W0 H'} hs => ?_⟩
    · have : ((cs.drop o).take (xs.length * Ob.n α)).drop ((i + 1) * Ob.n α) = C' := by
        rw [Nat.add_mul, Nat.one_mul, ← List.drop_drop, hC, ← hcl, List.drop_left]
      rw [this]; exact hrest
    · simp only [ixF, rdCells, hs.2 _ _ hB, Option.bind_some, Nat.add_zero]
      rw [if_pos (by omega)]
      have : (cs.drop (o + i * Ob.n α)).take (Ob.n α) = (((cs.drop o).take (xs.length * Ob.n α)).drop (i * Ob.n α)).take (Ob.n α) := by
        rw [List.drop_take, List.take_take, List.drop_drop]; congr 1; omega
      rw [this, hC, ← hcl, List.take_left]
/-- One element behind a list in a block of its own; what happens to memory is told. -/
theorem app_oneC {α : Type} [Ob α] [Own α] {K : Kt} {H : AH} {T S2 : List Nat} {b n : Nat} {xs : List α} {x : α} {c : List AV} {g : Bool} {s by' : Nat} {z : List Value} {bn : Nat} (ho : OwnS H (b :: T) (.sl b 0 n) xs) (hc : Own.own H S2 c x) (hbT : b ∉ T) (hbS2 : b ∉ S2) (hw : H.wf)
    (hB : H.blk bn = some ⟨c, s⟩) (k : ∀ H', H'.wf → H'.nxt = H.nxt + 1 → (∀ y, y ≠ b → y < H.nxt → H'.blk y = H.blk y) → OwnS H' (H.nxt :: (T ++ S2)) (.sl H.nxt 0 (n + 1)) (xs ++ [x]) → K.k (.sl H.nxt 0 (n + 1)) H')
    (h3 : (n + 1) * by' ≤ 140737488355328 := by omega) (hb : n + 1 ≤ big := by (simp only [big]; omega)) (hz : s = Ob.n α := by rfl) (g1 : 0 < s := by decide) (g2 : 0 < by' := by decide) (g3 : z.length = s := by rfl) : aapp (K := K) P W0 H (some ⟨g, s, by', z⟩) (.sl b 0 n) (.sl bn 0 1) := by
  subst hz
  have hcl : c.length = Ob.n α := Ob.len (Own.rep (W0 := W0) hc)
  have hlf : c.all leafA = true := Ob.leaf (Own.rep (W0 := W0) hc)
  have hcells := slCells_one (W0 := W0) hB hcl
  have hS2lt : ∀ b ∈ S2, b < H.nxt := fun b hb => hw.lt' (Own.isin hc b hb)
  have hSlt : ∀ y ∈ b :: T, y < H.nxt := fun b hb => hw.lt' (ho.isin b hb)
  rcases ho with ⟨h, -, -⟩ | ⟨b', o, cs, T', h, hBb, hle, hbg, hT, hO⟩
  · cases h
  cases h
  cases hT
  rw [aapp_own, hcells, hBb, aapp2_some]
  refine ⟨g1, g2, g3, hlf, rfl, hle, h3, ?_⟩
  have hcsl : ((cs.drop 0).take (xs.length * Ob.n α)).length = xs.length * Ob.n α := by simp; omega
  have hblk : ∀ y, y ≠ b → y < H.nxt → ((H.kill b).new ((cs.drop 0).take (xs.length * Ob.n α) ++ c) (Ob.n α)).blk y = H.blk y := fun y hx hlt => by
    rw [blk_new, if_neg (show ¬ y = (H.kill b).nxt from by rw [nxt_kill]; omega), blk_kill, if_neg hx]
  have htk : ((cs.drop 0).take (xs.length * Ob.n α) ++ c).length ≤ (xs ++ [x]).length * Ob.n α := by simp only [List.length_append, hcsl, hcl, List.length_singleton, Nat.add_mul, Nat.one_mul]; omega
  refine k _ ((hw.kill b).new _ _) rfl hblk (.inr ⟨H.nxt, 0, _, T ++ S2, by simp, blk_new_self (H.kill b) _ _, ?_, by simpa using hb, rfl, ?_⟩)
  · simp only [List.length_append, hcsl, hcl, List.length_singleton, Nat.add_mul, Nat.one_mul, Nat.zero_add]; omega
  · simp only [List.drop_zero] at hcsl htk hO hblk ⊢
    rw [List.take_of_length_le htk]
    exact (hO.eq fun y hy => hblk y (fun h => hbT (h ▸ hy)) (hSlt y (List.mem_cons_of_mem _ hy))).append (Owns.one (Own.eq hc fun y hy => hblk y (fun h => hbS2 (h ▸ hy)) (hS2lt y hy)))
end
def reportsD (w : WorldD) : List (List RowD) := ((tellsD w).filter fun e => decide (e.op.kind = 3)).map EvD.rows
def repTo (l : List EvD) (i : Nat) : List (List RowD) := ((l.take i).filter fun e => decide (e.op.kind = 3)).map EvD.rows
theorem repTo_succ {l : List EvD} {i : Nat} (h : i < l.length) : repTo l (i + 1) = repTo l i ++ (if l[i].op.kind = 3 then [l[i].rows] else []) := by
  unfold repTo
  rw [filter_step _ h, List.map_append]
  congr 1
  by_cases hk : l[i].op.kind = 3 <;> simp [hk]
theorem repTo_length (l : List EvD) (i : Nat) : (repTo l i).length ≤ i := by
  unfold repTo; rw [List.length_map]; exact Nat.le_trans (List.length_filter_le _ _) (by simp; omega)
theorem hev_len {w : WorldD} (hl : w.log.length ≤ 10000000) : (tellsD w).length ≤ 10000000 := Nat.le_trans (List.length_filter_le _ _) hl
theorem Reports_impl (W0 : World) (cs : List AV) (w : WorldD) (H : AH) (hx : Ob.rep W0 H cs w) (hl : w.log.length ≤ 10000000) (hr : ∀ e ∈ w.log, e.rows.length ≤ 1000000000) : ACalls Try.prog W0 58 [.agg cs] H (fun v H' => NewS H H' v (reportsD w)) := by
  refine acallw Try.func58 rfl (by kernel_rfl) (by kernel_rfl) fun hc hw => ?_
  have hx0 := hx
  obtain ⟨v1, v2, v3, v4, rfl, f1, f2, f3, f4, f5, f6⟩ := hx
  repeat' (first | simp -implicitDefEqProofs only [go_sem] | refine acond_decF (by omega) ?_ | refine acond_decT (by omega) ?_ | refine acond_ndecF (by omega) ?_ | refine acond_ndecT (by omega) ?_ | refine acond_dec (fun _ => ?_) (fun _ => ?_) | refine acond_ndec (fun _ => ?_) (fun _ => ?_) | refine agrd_dec (fun _ => ?_) (fun _ => ?_) | refine agrd_decf (fun _ => ?_) (fun _ => ?_) | refine agrd_ndec (fun _ => ?_) (fun _ => ?_) | refine agrd_ndecf (fun _ => ?_) (fun _ => ?_) | refine abi_len_sl' (by assumption) ?_ | refine aixs_sln (by assumption) ?_ | refine afa_sl (by assumption) ?_ | (refine aK_sl (by assumption) (by omega) ?_; first | rintro _ ⟨rfl, _⟩ | (intro _ hx; obtain ⟨_, rfl, _, _⟩ := EvD.out hx) | (intro _ hx; obtain ⟨_, _, rfl, _, _, _⟩ := JobD.out hx) | rintro _ ⟨_, rfl, _⟩) | rw [SlR.one (by assumption)] | rw [SlR.leaf (by assumption)] | simp -implicitDefEqProofs (disch := omega) only [wrap_in, u8_small, Int.tmod_eq_emod_of_nonneg, Int.tdiv_eq_ediv_of_nonneg] | refine aK_sub (by assumption) ?_ | refine aix_strn (fun _ _ => ?_) | ((with_reducible refine adraw_seq ?_ ?_ ?_); (· kernel_rfl); (· decide +kernel)) | simp -implicitDefEqProofs only [go_sem, slCells_own, aapp_own] | (with_reducible refine And.intro (by omega) ?_) | refine And.intro (by omega) (And.intro (by omega) ?_) | refine acond_split (fun _ => ?_) (fun _ => ?_) | refine agrd_bt (fun _ => ?_) (fun _ => ?_) | refine agrd_bf (fun _ => ?_) (fun _ => ?_) | refine retK_eq ?_ | refine retK_back (by assumption) ?_ | refine retK_eq2 ?_ | refine retK_back2 (by assumption) ?_ | (with_reducible refine And.intro ?_ ?_))
  refine ACallK.of (Tells_impl _ _ w _ (Ob.sub ((Sub.new hw (Sub.refl _) _ _).trans ((Sub.refl _).new (hw.new _ _) _ _)) hx0) hl hr).cl ?_
  rintro t H1 ⟨⟨s1, S1, o1, F1⟩, c1⟩
  have hlt1 : ∀ b ∈ S1, b < H1.nxt := fun b hb => c1.1.lt' (o1.isin b hb)
  have hF : ∀ b ∈ S1, H.nxt + 2 ≤ b := fun b hb => F1.2 b hb
  have n1 := s1.1; simp only [go_sem] at n1
  have b1 := s1.2 (H.nxt + 1) _ (by simp only [go_sem]; rfl)
  generalize hev : tellsD w = l at *
  have hlen : l.length ≤ 10000000 := by rw [← hev]; exact Nat.le_trans (List.length_filter_le _ _) hl
  have hK : Sub H (H1.kill (H.nxt + 1)) := Sub.kill hw ((Sub.new hw (Sub.refl _) _ _).trans (((Sub.refl _).new (hw.new _ _) _ _).trans s1)) (Nat.le_succ _)
  have wK : (H1.kill (H.nxt + 1)).wf := c1.1.kill _
  have oK : OwnS (H1.kill (H.nxt + 1)) S1 t l := o1.eq fun b hb => by rw [blk_kill, if_neg (by have := hF b hb; omega)]
  have rK := oK.slr (W0 := W0)
  repeat' (first | simp -implicitDefEqProofs only [go_sem] | refine acond_decF (by omega) ?_ | refine acond_decT (by omega) ?_ | refine acond_ndecF (by omega) ?_ | refine acond_ndecT (by omega) ?_ | refine acond_dec (fun _ => ?_) (fun _ => ?_) | refine acond_ndec (fun _ => ?_) (fun _ => ?_) | refine agrd_dec (fun _ => ?_) (fun _ => ?_) | refine agrd_decf (fun _ => ?_) (fun _ => ?_) | refine agrd_ndec (fun _ => ?_) (fun _ => ?_) | refine agrd_ndecf (fun _ => ?_) (fun _ => ?_) | refine abi_len_sl' (by assumption) ?_ | refine aixs_sln (by assumption) ?_ | refine afa_sl (by assumption) ?_ | (refine aK_sl (by assumption) (by omega) ?_; first | rintro _ ⟨rfl, _⟩ | (intro _ hx; obtain ⟨_, rfl, _, _⟩ := EvD.out hx) | (intro _ hx; obtain ⟨_, _, rfl, _, _, _⟩ := JobD.out hx) | rintro _ ⟨_, rfl, _⟩) | rw [SlR.one (by assumption)] | rw [SlR.leaf (by assumption)] | simp -implicitDefEqProofs (disch := omega) only [wrap_in, u8_small, Int.tmod_eq_emod_of_nonneg, Int.tdiv_eq_ediv_of_nonneg] | refine aK_sub (by assumption) ?_ | refine aix_strn (fun _ _ => ?_) | ((with_reducible refine adraw_seq ?_ ?_ ?_); (· kernel_rfl); (· decide +kernel)) | simp -implicitDefEqProofs only [go_sem, slCells_own, aapp_own] | (with_reducible refine And.intro (by omega) ?_) | refine And.intro (by omega) (And.intro (by omega) ?_) | refine acond_split (fun _ => ?_) (fun _ => ?_) | refine agrd_bt (fun _ => ?_) (fun _ => ?_) | refine agrd_bf (fun _ => ?_) (fun _ => ?_) | refine retK_eq ?_ | refine retK_back (by assumption) ?_ | refine retK_eq2 ?_ | refine retK_back2 (by assumption) ?_ | (with_reducible refine And.intro ?_ ?_))
  refine acode_while (fun (p : Nat × Nat) => [(3, .sl p.2 0 (repTo l p.1).length), (8, t), (9, .v (.int .i64 l.length)), (10, .v (.int .i64 p.1))]) (fun p H' => H'.wf ∧ Sub (H1.kill (H.nxt + 1)) H' ∧ p.1 ≤ l.length ∧ (p.2 = H.nxt + 1 ∨ H1.nxt ≤ p.2) ∧ ∃ T, OwnS H' (p.2 :: T) (.sl p.2 0 (repTo l p.1).length) (repTo l p.1) ∧ (T.Nodup ∧ ∀ x ∈ T, x ∈ S1) ∧ (l.length = p.1 ∨ ∃ B, Rest (H1.kill (H.nxt + 1)) t l p.1 B ∧ B.Nodup ∧ (∀ x ∈ B, x ∈ S1) ∧ ∀ x ∈ T, x ∉ B)) (fun p => l.length - p.1) (0, H.nxt + 1) ?_ ?_ (by simp only [frOk, go_sem]; simp [repTo])
  · refine ⟨c1.1, ⟨Nat.le_refl _, fun b B hB => ?_⟩, by simp only; omega, .inl rfl, [], ?_, ⟨List.nodup_nil, by simp⟩, ?_⟩
    · rw [blk_kill] at hB
      split at hB
      · cases hB
      · exact hB
    · simpa [repTo] using ownNil (α := List RowD) b1
    · rcases Nat.eq_zero_or_pos l.length with h | h
      · exact .inl h
      · obtain ⟨b, B, hS, hR⟩ := Rest.start oK h
        have hnd := F1.1; rw [hS] at hnd
        exact .inr ⟨B, hR, (List.nodup_cons.1 hnd).2, fun x hx => by rw [hS]; exact List.mem_cons_of_mem _ hx, by simp⟩
  rintro ⟨i, b⟩ H' ⟨hw', hs, hi, hb, T, ho, ⟨hT1, hT2⟩, hR⟩
  simp only at hi hb ho hR ⊢
  have hrl := repTo_length l i
  rcases Nat.lt_or_ge i l.length with hlt2 | hge
  · rcases hR with hR | ⟨B, hR, hB1, hB2, hB3⟩
    · omega
    obtain ⟨c, S2, B', rfl, hown, hR', hrd⟩ := hR.step hlt2
    have hstep := repTo_succ hlt2
    obtain ⟨m1, m2, m3⟩ := List.nodup_append.1 hB1
    obtain ⟨vr, Sr, rfl, rfl, q0, q1, q2, q3, q4, q5, q6, q7, q8, q9, q10, q11, q12⟩ := hown
    have hbS : ∀ x ∈ S1, x ≠ b := fun x hx => by have := hF x hx; have := hlt1 x hx; rcases hb with hb | hb <;> omega
    have q13 := q12.sub hs
    repeat' (first | simp -implicitDefEqProofs only [go_sem] | (refine aK_to _ (hrd hs) ?_) | (simp -implicitDefEqProofs only [q12.one, q12.leaf, wr_succ, wr_zero, wr_none, set_set, go_sem]) | (refine app_oneC (T := T) (S2 := S2) (x := l[i].rows) (ho.sub (((Sub.refl _).new hw' _ _).trans ((Sub.refl _).new (hw'.new _ _) _ _))) ⟨vr, rfl, q13.sub (((Sub.refl _).new hw' _ _).trans ((Sub.refl _).new (hw'.new _ _) _ _))⟩ (fun hm => hbS _ (hT2 _ hm) rfl) (fun hm => hbS _ (hB2 _ (List.mem_append_left _ hm)) rfl) ((hw'.new _ _).new _ _) (by simp only [go_sem]) ?_; intro H3 w3 n3 g3 o3; simp only [go_sem] at n3 o3) | refine acond_decF (by omega) ?_ | refine acond_decT (by omega) ?_ | refine acond_ndecF (by omega) ?_ | refine acond_ndecT (by omega) ?_ | refine acond_dec (fun _ => ?_) (fun _ => ?_) | refine acond_ndec (fun _ => ?_) (fun _ => ?_) | refine agrd_dec (fun _ => ?_) (fun _ => ?_) | refine agrd_decf (fun _ => ?_) (fun _ => ?_) | refine agrd_ndec (fun _ => ?_) (fun _ => ?_) | refine agrd_ndecf (fun _ => ?_) (fun _ => ?_) | refine abi_len_sl' (by assumption) ?_ | refine aixs_sln (by assumption) ?_ | refine afa_sl (by assumption) ?_ | (refine aK_sl (by assumption) (by omega) ?_; first | rintro _ ⟨rfl, _⟩ | (intro _ hx; obtain ⟨_, rfl, _, _⟩ := EvD.out hx) | (intro _ hx; obtain ⟨_, _, rfl, _, _, _⟩ := JobD.out hx) | rintro _ ⟨_, rfl, _⟩) | rw [SlR.one (by assumption)] | rw [SlR.leaf (by assumption)] | simp -implicitDefEqProofs (disch := omega) only [wrap_in, u8_small, Int.tmod_eq_emod_of_nonneg, Int.tdiv_eq_ediv_of_nonneg] | refine aK_sub (by assumption) ?_ | refine aix_strn (fun _ _ => ?_) | ((with_reducible refine adraw_seq ?_ ?_ ?_); (· kernel_rfl); (· decide +kernel)) | simp -implicitDefEqProofs only [go_sem, slCells_own, aapp_own] | (with_reducible refine And.intro (by omega) ?_) | refine And.intro (by omega) (And.intro (by omega) ?_) | refine acond_split (fun _ => ?_) (fun _ => ?_) | refine agrd_bt (fun _ => ?_) (fun _ => ?_) | refine agrd_bf (fun _ => ?_) (fun _ => ?_) | refine retK_eq ?_ | refine retK_back (by assumption) ?_ | refine retK_eq2 ?_ | refine retK_back2 (by assumption) ?_ | (with_reducible refine And.intro ?_ ?_))
    · rw [if_pos (by assumption)] at hstep
      have hs3 : Sub (H1.kill (H.nxt + 1)) H3 := ⟨by have := hs.1; simp only [go_sem] at this ⊢; omega, fun y Y hY => by
        have h1 := wK.lt hY
        have h2 := hs.1
        have h3 : y ≠ b := by
          rintro rfl
          rcases hb with hb | hb
          · rw [hb, blk_kill, if_pos rfl] at hY; cases hY
          · rw [nxt_kill] at h1; omega
        exact (g3 y h3 (show y < H'.nxt + 2 by omega)).trans ((((Sub.refl _).new hw' _ _).trans ((Sub.refl _).new (hw'.new _ _) _ _)).2 y Y (hs.2 y Y hY))⟩
      refine back (i + 1, H'.nxt + 2) ⟨w3, hs3, by simp only; omega, .inr (by have := hs.1; simp only [go_sem] at this ⊢; omega), T ++ S2, by simp only [hstep, List.length_append, List.length_singleton]; exact o3, ⟨List.nodup_append.2 ⟨hT1, m1, fun a ha b hb hab => hB3 a ha (hab ▸ List.mem_append_left _ hb)⟩, fun x hx => (List.mem_append.1 hx).elim (hT2 x) (fun h => hB2 x (List.mem_append_left _ h))⟩, .inr ⟨B', hR', m2, fun x hx => hB2 x (List.mem_append_right _ hx), fun x hx hm => ?_⟩⟩ (by simp only; omega) (by simp only [frOk, go_sem, hstep]; simp)
      rcases List.mem_append.1 hx with hx | hx
      · exact hB3 x hx (List.mem_append_right _ hm)
      · exact m3 x hx x hm rfl
    · rw [if_neg (by assumption), List.append_nil] at hstep
      exact back (i + 1, b) ⟨hw'.new _ _, hs.trans ((Sub.refl _).new hw' _ _), by simp only; omega, hb, T, by simp only [hstep]; exact ho.sub ((Sub.refl _).new hw' _ _), ⟨hT1, hT2⟩, .inr ⟨B', hR', m2, fun x hx => hB2 x (List.mem_append_right _ hx), fun x hx hm => hB3 x hx (List.mem_append_right _ hm)⟩⟩ (by simp only; omega) (by simp only [frOk, go_sem, hstep]; simp)
  · obtain rfl : i = l.length := by omega
    have he : repTo l l.length = reportsD w := by unfold repTo reportsD; rw [List.take_length, hev]
    repeat' (first | simp -implicitDefEqProofs only [go_sem] | refine acond_decF (by omega) ?_ | refine acond_decT (by omega) ?_ | refine acond_ndecF (by omega) ?_ | refine acond_ndecT (by omega) ?_ | refine acond_dec (fun _ => ?_) (fun _ => ?_) | refine acond_ndec (fun _ => ?_) (fun _ => ?_) | refine agrd_dec (fun _ => ?_) (fun _ => ?_) | refine agrd_decf (fun _ => ?_) (fun _ => ?_) | refine agrd_ndec (fun _ => ?_) (fun _ => ?_) | refine agrd_ndecf (fun _ => ?_) (fun _ => ?_) | refine abi_len_sl' (by assumption) ?_ | refine aixs_sln (by assumption) ?_ | refine afa_sl (by assumption) ?_ | (refine aK_sl (by assumption) (by omega) ?_; first | rintro _ ⟨rfl, _⟩ | (intro _ hx; obtain ⟨_, rfl, _, _⟩ := EvD.out hx) | (intro _ hx; obtain ⟨_, _, rfl, _, _, _⟩ := JobD.out hx) | rintro _ ⟨_, rfl, _⟩) | rw [SlR.one (by assumption)] | rw [SlR.leaf (by assumption)] | simp -implicitDefEqProofs (disch := omega) only [wrap_in, u8_small, Int.tmod_eq_emod_of_nonneg, Int.tdiv_eq_ediv_of_nonneg] | refine aK_sub (by assumption) ?_ | refine aix_strn (fun _ _ => ?_) | ((with_reducible refine adraw_seq ?_ ?_ ?_); (· kernel_rfl); (· decide +kernel)) | simp -implicitDefEqProofs only [go_sem, slCells_own, aapp_own] | (with_reducible refine And.intro (by omega) ?_) | refine And.intro (by omega) (And.intro (by omega) ?_) | refine acond_split (fun _ => ?_) (fun _ => ?_) | refine agrd_bt (fun _ => ?_) (fun _ => ?_) | refine agrd_bf (fun _ => ?_) (fun _ => ?_) | refine retK_eq ?_ | refine retK_back (by assumption) ?_ | refine retK_eq2 ?_ | refine retK_back2 (by assumption) ?_ | (with_reducible refine And.intro ?_ ?_))
    rw [he] at ho ⊢
    refine retK_one ⟨hK.trans hs, _, ho, List.nodup_cons.2 ⟨fun hm => ?_, hT1⟩, fun x hx => ?_⟩
    · have := hF _ (hT2 _ hm); have := hlt1 _ (hT2 _ hm); rcases hb with hb | hb <;> omega
    · rcases List.mem_cons.1 hx with rfl | hx
      · rcases hb with hb | hb <;> omega
      · have := hF _ (hT2 _ hx); omega
theorem Reports_spec (W0 : World) (cs : List AV) (w : WorldD) (H : AH) (hx : Ob.rep W0 H cs w) (hl : w.log.length ≤ 10000000) (hr : ∀ e ∈ w.log, e.rows.length ≤ 1000000000) : ACalls Try.prog W0 57 [.agg cs] H (fun v H' => Sub H H' ∧ SlR W0 H' v (reportsD w)) := by
  refine acallw Try.func57 rfl (by kernel_rfl) (by kernel_rfl) fun hc hw => ?_
  have hx0 := hx
  obtain ⟨v1, v2, v3, v4, rfl, f1, f2, f3, f4, f5, f6⟩ := hx
  repeat' (first | simp -implicitDefEqProofs only [go_sem] | refine acond_decF (by omega) ?_ | refine acond_decT (by omega) ?_ | refine acond_ndecF (by omega) ?_ | refine acond_ndecT (by omega) ?_ | refine acond_dec (fun _ => ?_) (fun _ => ?_) | refine acond_ndec (fun _ => ?_) (fun _ => ?_) | refine agrd_dec (fun _ => ?_) (fun _ => ?_) | refine agrd_decf (fun _ => ?_) (fun _ => ?_) | refine agrd_ndec (fun _ => ?_) (fun _ => ?_) | refine agrd_ndecf (fun _ => ?_) (fun _ => ?_) | refine abi_len_sl' (by assumption) ?_ | refine aixs_sln (by assumption) ?_ | refine afa_sl (by assumption) ?_ | (refine aK_sl (by assumption) (by omega) ?_; first | rintro _ ⟨rfl, _⟩ | (intro _ hx; obtain ⟨_, rfl, _, _⟩ := EvD.out hx) | (intro _ hx; obtain ⟨_, _, rfl, _, _, _⟩ := JobD.out hx) | rintro _ ⟨_, rfl, _⟩) | rw [SlR.one (by assumption)] | rw [SlR.leaf (by assumption)] | simp -implicitDefEqProofs (disch := omega) only [wrap_in, u8_small, Int.tmod_eq_emod_of_nonneg, Int.tdiv_eq_ediv_of_nonneg] | refine aK_sub (by assumption) ?_ | refine aix_strn (fun _ _ => ?_) | ((with_reducible refine adraw_seq ?_ ?_ ?_); (· kernel_rfl); (· decide +kernel)) | simp -implicitDefEqProofs only [go_sem, slCells_own, aapp_own] | (with_reducible refine And.intro (by omega) ?_) | refine And.intro (by omega) (And.intro (by omega) ?_) | refine acond_split (fun _ => ?_) (fun _ => ?_) | refine agrd_bt (fun _ => ?_) (fun _ => ?_) | refine agrd_bf (fun _ => ?_) (fun _ => ?_) | refine retK_eq ?_ | refine retK_back (by assumption) ?_ | refine retK_eq2 ?_ | refine retK_back2 (by assumption) ?_ | (with_reducible refine And.intro ?_ ?_))
  refine ACallK.of (Tells_specA _ _ w _ (Ob.sub ((Sub.new hw (Sub.refl _) _ _).trans ((Sub.refl _).new (hw.new _ _) _ _)) hx0) hl hr).cl ?_
  rintro u H1 ⟨⟨s1, r1⟩, c1⟩
  have n1 := s1.1; simp only [go_sem] at n1 r1
  have b1 := s1.2 (H.nxt + 1) _ (by simp only [go_sem]; rfl)
  have he := hev_len (w := w) hl
  generalize hev : tellsD w = l at *
  have hK : Sub H (H1.kill (H.nxt + 1)) := Sub.kill hw ((Sub.new hw (Sub.refl _) _ _).trans (((Sub.refl _).new (hw.new _ _) _ _).trans s1)) (Nat.le_succ _)
  have wK : (H1.kill (H.nxt + 1)).wf := c1.1.kill _
  have sK : Sub (H1.above (H.nxt + 2)) (H1.kill (H.nxt + 1)) := ⟨Nat.le_refl _, fun b B hB => by
    simp only [AH.above] at hB
    split at hB
    · cases hB
    · rw [blk_kill, if_neg (by omega)]; exact hB⟩
  generalize hKb : H1.kill (H.nxt + 1) = Kb at *
  generalize hK0 : H1.above (H.nxt + 2) = K0 at *
  repeat' (first | simp -implicitDefEqProofs only [go_sem] | refine acond_decF (by omega) ?_ | refine acond_decT (by omega) ?_ | refine acond_ndecF (by omega) ?_ | refine acond_ndecT (by omega) ?_ | refine acond_dec (fun _ => ?_) (fun _ => ?_) | refine acond_ndec (fun _ => ?_) (fun _ => ?_) | refine agrd_dec (fun _ => ?_) (fun _ => ?_) | refine agrd_decf (fun _ => ?_) (fun _ => ?_) | refine agrd_ndec (fun _ => ?_) (fun _ => ?_) | refine agrd_ndecf (fun _ => ?_) (fun _ => ?_) | refine abi_len_sl' (by assumption) ?_ | refine aixs_sln (by assumption) ?_ | refine afa_sl (by assumption) ?_ | (refine aK_sl (by assumption) (by omega) ?_; first | rintro _ ⟨rfl, _⟩ | (intro _ hx; obtain ⟨_, rfl, _, _⟩ := EvD.out hx) | (intro _ hx; obtain ⟨_, _, rfl, _, _, _⟩ := JobD.out hx) | rintro _ ⟨_, rfl, _⟩) | rw [SlR.one (by assumption)] | rw [SlR.leaf (by assumption)] | simp -implicitDefEqProofs (disch := omega) only [wrap_in, u8_small, Int.tmod_eq_emod_of_nonneg, Int.tdiv_eq_ediv_of_nonneg] | refine aK_sub (by assumption) ?_ | refine aix_strn (fun _ _ => ?_) | ((with_reducible refine adraw_seq ?_ ?_ ?_); (· kernel_rfl); (· decide +kernel)) | simp -implicitDefEqProofs only [go_sem, slCells_own, aapp_own] | (with_reducible refine And.intro (by omega) ?_) | refine And.intro (by omega) (And.intro (by omega) ?_) | refine acond_split (fun _ => ?_) (fun _ => ?_) | refine agrd_bt (fun _ => ?_) (fun _ => ?_) | refine agrd_bf (fun _ => ?_) (fun _ => ?_) | refine retK_eq ?_ | refine retK_back (by assumption) ?_ | refine retK_eq2 ?_ | refine retK_back2 (by assumption) ?_ | (with_reducible refine And.intro ?_ ?_))
  refine acode_while (fun (p : Nat × Nat) => [(3, .sl p.2 0 (repTo l p.1).length), (4, u), (5, .v (.int .i64 p.1))]) (fun p H' => H'.wf ∧ Sub Kb H' ∧ p.1 ≤ l.length ∧ Kb.blk p.2 = none ∧ ∃ ds, H'.blk p.2 = some ⟨ds, 1⟩ ∧ Reps W0 K0 ds (repTo l p.1)) (fun p => l.length - p.1) (0, H.nxt + 1) ?_ ?_ (by simp only [frOk, go_sem]; simp [repTo])
  · refine ⟨c1.1, ⟨by rw [← hKb]; exact Nat.le_refl _, fun b B hB => ?_⟩, by simp only; omega, by rw [← hKb]; simp only [blk_kill, if_true], [], by simpa using b1, by simpa [repTo] using Reps.nil⟩
    rw [← hKb, blk_kill] at hB
    split at hB
    · cases hB
    · exact hB
  rintro ⟨i, b⟩ H' ⟨hw', hs, hi, hbn, ds, hB, hR⟩
  simp only at hi hbn hB hR ⊢
  have hrl := repTo_length l i
  rcases Nat.lt_or_ge i l.length with hlt2 | hge
  · have hstep := repTo_succ hlt2
    repeat' (first | simp -implicitDefEqProofs only [go_sem] | (refine aixs_sln r1 ?_) | (refine aK_sl r1 (by omega) ?_; intro _ hx; obtain ⟨_, rfl, hq, -⟩ := EvD.out hx) | (simp -implicitDefEqProofs only [(by assumption : SlR W0 K0 _ l[i].rows).one, (by assumption : SlR W0 K0 _ l[i].rows).leaf, go_sem]) | (refine app_repK (x := l[i].rows) (by first | exact (hs.trans ((Sub.refl _).new hw' _ _))) wK (hw'.new _ _) hbn (by simp only [go_sem]; rw [if_neg (by have := hw'.lt hB; omega)]; exact hB) rfl (hR.sub sK) (Ob.sub sK (⟨_, rfl, by assumption⟩ : Ob.rep W0 K0 [_] l[i].rows)) (by simp only [go_sem]) ?_; intro H3 w3 s3 b3 r3 l3 l4) | refine acond_decF (by omega) ?_ | refine acond_decT (by omega) ?_ | refine acond_ndecF (by omega) ?_ | refine acond_ndecT (by omega) ?_ | refine acond_dec (fun _ => ?_) (fun _ => ?_) | refine acond_ndec (fun _ => ?_) (fun _ => ?_) | refine agrd_dec (fun _ => ?_) (fun _ => ?_) | refine agrd_decf (fun _ => ?_) (fun _ => ?_) | refine agrd_ndec (fun _ => ?_) (fun _ => ?_) | refine agrd_ndecf (fun _ => ?_) (fun _ => ?_) | refine abi_len_sl' (by assumption) ?_ | refine aixs_sln (by assumption) ?_ | refine afa_sl (by assumption) ?_ | (refine aK_sl (by assumption) (by omega) ?_; first | rintro _ ⟨rfl, _⟩ | (intro _ hx; obtain ⟨_, rfl, _, _⟩ := EvD.out hx) | (intro _ hx; obtain ⟨_, _, rfl, _, _, _⟩ := JobD.out hx) | rintro _ ⟨_, rfl, _⟩) | rw [SlR.one (by assumption)] | rw [SlR.leaf (by assumption)] | simp -implicitDefEqProofs (disch := omega) only [wrap_in, u8_small, Int.tmod_eq_emod_of_nonneg, Int.tdiv_eq_ediv_of_nonneg] | refine aK_sub (by assumption) ?_ | refine aix_strn (fun _ _ => ?_) | ((with_reducible refine adraw_seq ?_ ?_ ?_); (· kernel_rfl); (· decide +kernel)) | simp -implicitDefEqProofs only [go_sem, slCells_own, aapp_own] | (with_reducible refine And.intro (by omega) ?_) | refine And.intro (by omega) (And.intro (by omega) ?_) | refine acond_split (fun _ => ?_) (fun _ => ?_) | refine agrd_bt (fun _ => ?_) (fun _ => ?_) | refine agrd_bf (fun _ => ?_) (fun _ => ?_) | refine retK_eq ?_ | refine retK_back (by assumption) ?_ | refine retK_eq2 ?_ | refine retK_back2 (by assumption) ?_ | (with_reducible refine And.intro ?_ ?_))
    · rw [if_pos (by assumption)] at hstep
      have hR3 := hR.append (Reps.cons (⟨_, rfl, by assumption⟩ : Ob.rep W0 K0 [_] l[i].rows) .nil)
      rw [List.append_nil] at hR3
      refine back (i + 1, H'.nxt + 1) ⟨w3, s3, by simp only; omega, wK _ (by simp only [go_sem] at l4 ⊢; exact l4), _, by simpa only [go_sem] using b3, by simp only [hstep]; exact hR3⟩ (by simp only; omega) (by simp only [frOk, go_sem, hstep]; simp)
    · rw [if_neg (by assumption), List.append_nil] at hstep
      exact back (i + 1, b) ⟨hw', hs, by simp only; omega, hbn, ds, hB, by simp only [hstep]; exact hR⟩ (by simp only; omega) (by simp only [frOk, go_sem, hstep]; simp)
  · obtain rfl : i = l.length := by omega
    have hr2 : repTo l l.length = reportsD w := by unfold repTo reportsD; rw [List.take_length, hev]
    repeat' (first | simp -implicitDefEqProofs only [go_sem] | refine acond_decF (by omega) ?_ | refine acond_decT (by omega) ?_ | refine acond_ndecF (by omega) ?_ | refine acond_ndecT (by omega) ?_ | refine acond_dec (fun _ => ?_) (fun _ => ?_) | refine acond_ndec (fun _ => ?_) (fun _ => ?_) | refine agrd_dec (fun _ => ?_) (fun _ => ?_) | refine agrd_decf (fun _ => ?_) (fun _ => ?_) | refine agrd_ndec (fun _ => ?_) (fun _ => ?_) | refine agrd_ndecf (fun _ => ?_) (fun _ => ?_) | refine abi_len_sl' (by assumption) ?_ | refine aixs_sln (by assumption) ?_ | refine afa_sl (by assumption) ?_ | (refine aK_sl (by assumption) (by omega) ?_; first | rintro _ ⟨rfl, _⟩ | (intro _ hx; obtain ⟨_, rfl, _, _⟩ := EvD.out hx) | (intro _ hx; obtain ⟨_, _, rfl, _, _, _⟩ := JobD.out hx) | rintro _ ⟨_, rfl, _⟩) | rw [SlR.one (by assumption)] | rw [SlR.leaf (by assumption)] | simp -implicitDefEqProofs (disch := omega) only [wrap_in, u8_small, Int.tmod_eq_emod_of_nonneg, Int.tdiv_eq_ediv_of_nonneg] | refine aK_sub (by assumption) ?_ | refine aix_strn (fun _ _ => ?_) | ((with_reducible refine adraw_seq ?_ ?_ ?_); (· kernel_rfl); (· decide +kernel)) | simp -implicitDefEqProofs only [go_sem, slCells_own, aapp_own] | (with_reducible refine And.intro (by omega) ?_) | refine And.intro (by omega) (And.intro (by omega) ?_) | refine acond_split (fun _ => ?_) (fun _ => ?_) | refine agrd_bt (fun _ => ?_) (fun _ => ?_) | refine agrd_bf (fun _ => ?_) (fun _ => ?_) | refine retK_eq ?_ | refine retK_back (by assumption) ?_ | refine retK_eq2 ?_ | refine retK_back2 (by assumption) ?_ | (with_reducible refine And.intro ?_ ?_))
    rw [hr2] at hR ⊢
    have hlr : (reportsD w).length ≤ l.length := by rw [← hr2]; exact hrl
    exact retK_one ⟨hK.trans hs, slr_spine (sK.trans hs) hB hR rfl (Nat.le_trans hlr (by simp only [big]; omega))⟩
theorem cnt_reports {w : WorldD} (h : Ob.sz w ≤ 1048576) : cntL (reportsD w) ≤ 100000000 := by
  have h1 := cnt_tells h
  have h2 : cntL (reportsD w) ≤ cntL ((tellsD w).filter fun e => decide (e.op.kind = 3)) := by
    unfold reportsD
    generalize (tellsD w).filter (fun e => decide (e.op.kind = 3)) = l
    induction l with
    | nil => simp [cntL]
    | cons x l ih =>
      rw [List.map_cons, cntL_cons, cntL_cons]
      have : Mk.cnt x = 12 + cntL x.rows := rfl
      have h3 : Mk.cnt x.rows = cntL x.rows := rfl
      omega
  have h3 := cntL_filter (fun e : EvD => decide (e.op.kind = 3)) (tellsD w)
  omega
end Go.Proofs.Ythcjolappblieaa.Aw
