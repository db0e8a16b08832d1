/- The calculus 'Aw' at work, part 13: rules for lists of numbers that are owned; copies. -/
import Derived.Test.YthcjolappblieaaOe
import Derived.Test.YthcjolappblieaaAy3
namespace Go.Proofs.Ythcjolappblieaa.Aw
open Go Go.RowKit
set_option linter.unusedVariables false
set_option linter.unusedSimpArgs false
set_option linter.unusedSectionVars false
variable {P : Program} {W0 : World}
/-- An element's place, of a list of numbers. -/
theorem ixI {K : Kt} {H H' : AH} {v : AV} {xs : List Int} {g : Bool} {s b : Nat} {z : List Value} {k : IntKind} {j : Int} (h : SlR W0 H v xs) (hk : K.k (ixF s v j.toNat 0) H')
    (h0 : 0 ≤ j := by omega) (h1 : j < xs.length := by omega) (hz : s = 1 := by rfl) (hs : Sub H H' := by repeat (first | exact Sub.refl _ | assumption | refine Sub.new (by assumption) ?_ _ _ | refine Sub.kill_new (by assumption) ?_ _ _ | refine Sub.trans ?_ (by assumption))) : aixs (K := K) (some ⟨g, s, b, z⟩) v (.v (.int k j)) H' :=
  aixs_sl h hk hs hz h0 h1
theorem rdI {K : Kl} {H H' : AH} {v : AV} {xs : List Int} {s j : Nat} (h : SlR W0 H v xs) (hk : K.k [.v (.int .i64 (xs.getD j 0))]) (hj : j < xs.length := by omega) (hz : s = 1 := by rfl) (hs : Sub H H' := by repeat (first | exact Sub.refl _ | assumption | refine Sub.new (by assumption) ?_ _ _ | refine Sub.kill_new (by assumption) ?_ _ _ | refine Sub.trans ?_ (by assumption))) : aK (K := K) (rdCells W0 H' 1 (ixF s v j 0)) := by
  refine aK_sl (f := 0) h hj (fun cs hc => ?_) hs hz (by subst hz; exact Nat.le_refl _)
  obtain ⟨rfl, -⟩ := hc
  rw [List.getD_eq_getElem?_getD, List.getElem?_eq_getElem hj] at hk
  exact hk
theorem stI {K : Kt} {H : AH} {S : List Nat} {v : AV} {xs : List Int} {s j : Nat} {n : Int} {g : Bool} {b : Nat} {z : List Value} (ho : OwnS H S v xs) (hw : H.wf) (k : ∀ H', H'.wf → Chg S H H' → OwnS H' S v (xs.set j n) → K.k .dead H')
    (hn : inI64 n := by (simp only [inI64]; omega)) (hj : j < xs.length := by omega) (hz : s = 1 := by rfl) : astore' (K := K) (some ⟨g, 1, b, z⟩) (ixF s v j 0) (.v (.int .i64 n)) H := by
  subst hz
  obtain ⟨b', o, pre, mid, post, S1, S2, S3, rfl, hB, hp, hm, hS, hown, put⟩ := ho.get j hj
  obtain ⟨rfl, rfl, -⟩ := hown
  simp only [Ob.n, Nat.mul_one] at hp hB
  have hbS : b' ∈ S := by rw [hS]; exact List.mem_cons_self ..
  simp only [ixF, Nat.mul_one, Nat.add_zero, astore', astore, hB, cellsA_int]
  refine ⟨rfl, by simp [hp], rfl, ?_⟩
  have e : wr (pre ++ ([AV.v (.int .i64 xs[j])] ++ post)) (o + j) [AV.v (.int .i64 n)] = pre ++ ([AV.v (.int .i64 n)] ++ post) := by
    rw [wr_pre0 hp]; simp [wr]
  rw [e]
  have hS1 : S1 ++ S3 = [] := by
    rcases ho.flat with ⟨h, -, -⟩ | ⟨_, _, _, _, _, _, _, h, _, _⟩
    · cases h
    · rw [hS] at h; simp at h; simp [h.2]
  refine k _ (hw.set (hw.lt hB) _) ((Chg.refl _ _).set hbS _) ?_
  rw [hS]
  exact put _ [] _ n (blk_set_self _ _ _) (fun x hx => by rw [hS1] at hx; cases hx) ⟨rfl, rfl, hn⟩
theorem SlR.cases {α : Type} [Ob α] {H : AH} {v : AV} {xs : List α} (h : SlR W0 H v xs) : (∃ b o n, v = .sl b o n) ∨ (∃ n c, v = .v (.slice none n c) ∧ xs = []) ∨ ∃ a n c, v = .v (.slice (some a) n c) := by
  obtain ⟨e1, e2, cs, e3, e4⟩ := h
  unfold slN at e1
  split at e1
  · exact .inl ⟨_, _, _, rfl⟩
  · rename_i a n c
    cases a with
    | some a => exact .inr (.inr ⟨_, _, _, rfl⟩)
    | none =>
      refine .inr (.inl ⟨_, _, rfl, ?_⟩)
      unfold slCells at e3
      simp only at e3
      split at e3
      · exact List.eq_nil_of_length_eq_zero (by assumption)
      · cases e3
  · cases e1
/-- A list, copied behind an empty slice that is new. -/
theorem app_new {α : Type} [Ob α] [Own α] [Flat α] {K : Kt} {H0 H : AH} {v : AV} {xs : List α} {g : Bool} {s by' : Nat} {z : List Value} {b : Nat} (hv : SlR W0 H0 v xs) (hs0 : Sub H0 H) (hB : H.blk b = some ⟨[], s⟩) (hb : H0.nxt ≤ b) (hw : H0.wf) (k : ∀ H', Sub H0 H' → NewS H0 H' (.sl H.nxt 0 xs.length) xs → K.k (.sl H.nxt 0 xs.length) H')
    (h3 : xs.length * by' ≤ 140737488355328 := by omega) (hz : s = Ob.n α := by rfl) (g1 : 0 < s := by decide) (g2 : 0 < by' := by decide) (g3 : z.length = s := by rfl) : aapp (K := K) P W0 H (some ⟨g, s, by', z⟩) (.sl b 0 0) v := by
  subst hz
  obtain ⟨h1, h2, cs, hc, hr⟩ := hv.sub hs0
  obtain ⟨rfl, hok⟩ := Reps.flat Flat.rep_enc hr
  have hl := lenA_of (slN_len h1)
  have hel := encL_len hok
  rw [aapp_sl, hl]
  simp only [hB, hc]
  rw [aapp2_some]
  refine ⟨g1, g2, g3, hr.leaf, rfl, by simp, by rw [Nat.zero_add]; exact h3, ?_⟩
  simp only [Nat.zero_add, Nat.zero_mul, List.drop_nil, List.take_nil, List.nil_append]
  have hsub : Sub H0 ((H.kill b).new (encL xs) (Ob.n α)) := by
    refine ⟨Nat.le_succ_of_le hs0.1, fun x B hx => ?_⟩
    have := hw.lt hx
    have h4 := hs0.1
    rw [blk_new, if_neg (show ¬ x = (H.kill b).nxt from by rw [nxt_kill]; omega), blk_kill, if_neg (by omega)]
    exact hs0.2 x B hx
  exact k _ hsub ⟨hsub, [H.nxt], OwnS.ofFlat (cs := encL xs) (blk_new_self _ _ _) (by rw [List.drop_zero]; exact List.take_of_length_le (by rw [hel]; exact Nat.le_refl _)) (by rw [hel]; omega) h2 hok rfl, by simp [Fresh, hs0.1]⟩
theorem Chg.newS {S : List Nat} {H0 H H' : AH} {v : AV} {ys : List Int} (hw : H0.wf) (hs : Sub H0 H) (hf : Fresh H0.nxt S) (g : Chg S H H') (o : OwnS H' S v ys) : NewS H0 H' v ys :=
  ⟨⟨Nat.le_trans hs.1 (Nat.le_of_eq g.1.symm), fun b B hB => (g.2 b (fun hm => by have := hf.2 b hm; have := hw.lt hB; omega)).trans (hs.2 b B hB)⟩, S, o, hf⟩
theorem Fresh.app {n : Nat} {S T : List Nat} (h : Fresh n S) (k : Fresh n T) (hd : ∀ b ∈ S, b ∉ T) : Fresh n (S ++ T) := by
  refine ⟨List.nodup_append.2 ⟨h.1, k.1, fun a ha b hb hab => hd a ha (hab ▸ hb)⟩, fun b hb => ?_⟩
  rcases List.mem_append.1 hb with hb | hb
  · exact h.2 b hb
  · exact k.2 b hb
end Go.Proofs.Ythcjolappblieaa.Aw
