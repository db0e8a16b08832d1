/- Parts of a proof: Wi Gl Fa Fk Fl Fb. -/
import Derived.Test.YtipfnhfcoolhaaaGreatK04
import Derived.Test.YtipfnhfcoolhaaaGreatK03
import Derived.Test.YtipfnhfcoolhaaaGreatK01
import Derived.Laws.BitsAllLaws
import Derived.Laws.BitsLemmas
set_option linter.unusedVariables false
set_option linter.unusedSimpArgs false
section
namespace Go.Proofs.YtipfnhfcoolhaaaGreat.Aw
open Go Go.RowKit
def Mv (H : AH) (S : List Nat) (bw bj : Nat) (vj vt : AV) (pre post : List AV) (w : WorldD) (j : JobD) : Prop :=
  S.Nodup ∧ ∃ vc vl cj Sc Sl Sj, S = bw :: bj :: (Sc ++ (Sl ++ Sj)) ∧ H.blk bw = some ⟨wcs vc vj vt vl w, 6⟩ ∧ H.blk bj = some ⟨pre ++ (cj ++ post), 18⟩ ∧ OwnS H Sc vc w.cells ∧ OwnS H Sl vl w.log ∧ Own.own H Sj cj j
structure MvP (H : AH) (S : List Nat) (bw bj oj t : Nat) (vj vt : AV) (pre post : List AV) (w : WorldD) (j : JobD) : Prop where
  mv : Mv H S bw bj vj vt pre post w j
  ll : w.log.length ≤ 1000000000
  lj : leafA vj = true ∧ cellsA vj = some [vj]
  lt : leafA vt = true ∧ cellsA vt = some [vt]
  nw : inI64 w.now
  tt : t ≤ 3
  pl : pre.length = oj
abbrev mvA (bw bj oj t : Nat) : AV := .agg [.ptr bw 0, .v (.int .i64 t), .ptr bj oj]
def MvR (H : AH) (S : List Nat) (bw bj : Nat) (vj vt : AV) (pre post : List AV) (p : WorldD × JobD) (H' : AH) : Prop := ∃ S', Mv H' S' bw bj vj vt pre post p.1 p.2 ∧ Upd S H H' S'
theorem Mv.in2 {H : AH} {S : List Nat} {bw bj : Nat} {vj vt : AV} {pre post : List AV} {w : WorldD} {j : JobD} (h : Mv H S bw bj vj vt pre post w j) : bw ∈ S ∧ bj ∈ S := by
  obtain ⟨-, vc, vl, cj, Sc, Sl, Sj, rfl, -⟩ := h
  exact ⟨List.mem_cons_self .., List.mem_cons_of_mem _ (List.mem_cons_self ..)⟩
theorem Mv.isin {H : AH} {S : List Nat} {bw bj : Nat} {vj vt : AV} {pre post : List AV} {w : WorldD} {j : JobD} (h : Mv H S bw bj vj vt pre post w j) : ∀ b ∈ S, (H.blk b).isSome = true := by
  obtain ⟨n, vc, vl, cj, Sc, Sl, Sj, rfl, hb, hj, h1, h2, h3⟩ := h
  intro b hm
  rcases List.mem_cons.1 hm with rfl | hm
  · rw [hb]; rfl
  rcases List.mem_cons.1 hm with rfl | hm
  · rw [hj]; rfl
  rcases List.mem_append.1 hm with hm | hm
  · exact h1.isin b hm
  rcases List.mem_append.1 hm with hm | hm
  · exact h2.isin b hm
  · exact Own.isin h3 b hm
theorem mvf {H : AH} {bw bj : Nat} {Sc Sl Sk Sr : List Nat} (hn : (bw :: bj :: (Sc ++ (Sl ++ (Sk ++ Sr)))).Nodup) (hnS : ∀ b ∈ bw :: bj :: (Sc ++ (Sl ++ (Sk ++ Sr))), b < H.nxt) :
    bw < H.nxt ∧ bj < H.nxt ∧ ¬ bw = bj ∧ ¬ bj = bw ∧ (∀ b ∈ Sc ++ (Sl ++ (Sk ++ Sr)), b < H.nxt) ∧ bw ∉ Sc ++ (Sl ++ (Sk ++ Sr)) ∧ bj ∉ Sc ++ (Sl ++ (Sk ++ Sr)) ∧
    (∀ b ∈ Sc, b ∈ Sc ++ (Sl ++ (Sk ++ Sr))) ∧ (∀ b ∈ Sl, b ∈ Sc ++ (Sl ++ (Sk ++ Sr))) ∧ (∀ b ∈ Sk, b ∈ Sc ++ (Sl ++ (Sk ++ Sr))) ∧ (∀ b ∈ Sr, b ∈ Sc ++ (Sl ++ (Sk ++ Sr))) ∧
    ¬ bw = H.nxt ∧ ¬ bw = H.nxt + 1 ∧ ¬ bw = H.nxt + 2 ∧ ¬ bj = H.nxt ∧ ¬ H.nxt = bw ∧ ¬ H.nxt = bj ∧ ¬ bj = H.nxt + 1 ∧ ¬ bj = H.nxt + 2 := by
  have hnw1 := hnS bw (List.mem_cons_self ..)
  have hnj1 := hnS bj (List.mem_cons_of_mem _ (List.mem_cons_self ..))
  have hne : ¬ bw = bj := fun h => (List.nodup_cons.1 hn).1 (h ▸ List.mem_cons_self ..)
  refine ⟨hnw1, hnj1, hne, fun h => hne h.symm, fun b hb => hnS b (List.mem_cons_of_mem _ (List.mem_cons_of_mem _ hb)), fun h => (List.nodup_cons.1 hn).1 (List.mem_cons_of_mem _ h), (List.nodup_cons.1 (List.nodup_cons.1 hn).2).1,
    fun b hb => List.mem_append_left _ hb, fun b hb => List.mem_append_right _ (List.mem_append_left _ hb), fun b hb => List.mem_append_right _ (List.mem_append_right _ (List.mem_append_left _ hb)), fun b hb => List.mem_append_right _ (List.mem_append_right _ (List.mem_append_right _ hb)), ?_, ?_, ?_, ?_, ?_, ?_, ?_, ?_⟩ <;> omega
theorem MvR.fin {H H1 H' : AH} {S : List Nat} {bw bj : Nat} {Sc Sl Sj : List Nat} {vc vj vt vl : AV} {cj pre post : List AV} {w' : WorldD} {j' : JobD} (w1 : H1.wf) (hS : bw ∈ S ∧ bj ∈ S) (g : Upd S H H1 (bw :: bj :: (Sc ++ (Sl ++ Sj))))
    (oc : OwnS H1 Sc vc w'.cells) (ol : OwnS H1 Sl vl w'.log) (oj : Own.own H1 Sj cj j') (hw : H.wf) (hk : ∀ b, b ≠ bw → b ≠ bj → (b < H.nxt ∨ b < H1.nxt) → H'.blk b = H1.blk b) (hn : H1.nxt ≤ H'.nxt)
    (bB : H'.blk bw = some ⟨wcs vc vj vt vl w', 6⟩) (jB : H'.blk bj = some ⟨pre ++ (cj ++ post), 18⟩) : MvR H S bw bj vj vt pre post (w', j') H' := by
  obtain ⟨n1, n2⟩ := List.nodup_cons.1 g.2.2.2
  obtain ⟨n3, n4⟩ := List.nodup_cons.1 n2
  have e : ∀ b ∈ Sc ++ (Sl ++ Sj), (H1.blk b).isSome = true → H'.blk b = H1.blk b := fun b hb hs =>
    hk b (fun h => n1 (h ▸ List.mem_cons_of_mem _ hb)) (fun h => n3 (h ▸ hb)) (.inr (w1.lt' hs))
  refine ⟨_, ⟨g.2.2.2, vc, vl, cj, Sc, Sl, Sj, rfl, bB, jB, ?_, ?_, ?_⟩, Nat.le_trans g.1 hn, fun b B hb hB => ?_, g.2.2.1, g.2.2.2⟩
  · exact oc.eq fun b hb => e b (List.mem_append_left _ hb) (oc.isin b hb)
  · exact ol.eq fun b hb => e b (List.mem_append_right _ (List.mem_append_left _ hb)) (ol.isin b hb)
  · exact Own.eq oj fun b hb => e b (List.mem_append_right _ (List.mem_append_right _ hb)) (Own.isin oj b hb)
  · rw [hk b (fun h => hb (h ▸ hS.1)) (fun h => hb (h ▸ hS.2)) (.inl (hw.lt hB))]; exact g.2.1 b B hb hB
theorem nd_part {bw bj : Nat} {A B C D T : List Nat} {n : Nat} (hn : (bw :: bj :: (A ++ (B ++ (C ++ D)))).Nodup) (hi : ∀ b ∈ bw :: bj :: (A ++ (B ++ (C ++ D))), b < n) (hT : T.Nodup) :
    ((∀ b ∈ T, b ∈ A ∨ n ≤ b) → (bw :: bj :: (T ++ (B ++ (C ++ D)))).Nodup) ∧ ((∀ b ∈ T, b ∈ B ∨ n ≤ b) → (bw :: bj :: (A ++ (T ++ (C ++ D)))).Nodup) ∧ ((∀ b ∈ T, b ∈ C ∨ n ≤ b) → (bw :: bj :: (A ++ (B ++ (T ++ D)))).Nodup) ∧ ((∀ b ∈ T, b ∈ D ∨ n ≤ b) → (bw :: bj :: (A ++ (B ++ (C ++ T)))).Nodup) := by
  simp only [List.nodup_cons, List.nodup_append, List.mem_cons, List.mem_append] at *
  refine ⟨fun h => ?_, fun h => ?_, fun h => ?_, fun h => ?_⟩ <;> grind
theorem in_part {bw bj : Nat} {A B C D T : List Nat} {n : Nat} :
    ((∀ b ∈ T, b ∈ A ∨ n ≤ b) → ∀ b ∈ bw :: bj :: (T ++ (B ++ (C ++ D))), b ∈ bw :: bj :: (A ++ (B ++ (C ++ D))) ∨ n ≤ b) ∧ ((∀ b ∈ T, b ∈ B ∨ n ≤ b) → ∀ b ∈ bw :: bj :: (A ++ (T ++ (C ++ D))), b ∈ bw :: bj :: (A ++ (B ++ (C ++ D))) ∨ n ≤ b) ∧ ((∀ b ∈ T, b ∈ C ∨ n ≤ b) → ∀ b ∈ bw :: bj :: (A ++ (B ++ (T ++ D))), b ∈ bw :: bj :: (A ++ (B ++ (C ++ D))) ∨ n ≤ b) ∧ ((∀ b ∈ T, b ∈ D ∨ n ≤ b) → ∀ b ∈ bw :: bj :: (A ++ (B ++ (C ++ T))), b ∈ bw :: bj :: (A ++ (B ++ (C ++ D))) ∨ n ≤ b) := by
  simp only [List.mem_cons, List.mem_append] at *
  refine ⟨fun h => ?_, fun h => ?_, fun h => ?_, fun h => ?_⟩ <;> grind
theorem Upd.partA {bw bj : Nat} {A B C D T : List Nat} {H H1 : AH} (hn : (bw :: bj :: (A ++ (B ++ (C ++ D)))).Nodup) (hi : ∀ b ∈ bw :: bj :: (A ++ (B ++ (C ++ D))), b < H.nxt) (hx : H.nxt ≤ H1.nxt) (hs : ∀ b B', b ∉ bw :: bj :: (A ++ (B ++ (C ++ D))) → H.blk b = some B' → H1.blk b = some B') (hT : T.Nodup) (hm : ∀ b ∈ T, b ∈ A ∨ H.nxt ≤ b) : Upd (bw :: bj :: (A ++ (B ++ (C ++ D)))) H H1 (bw :: bj :: (T ++ (B ++ (C ++ D)))) := ⟨hx, hs, in_part.1 hm, (nd_part hn hi hT).1 hm⟩
theorem Upd.partC {bw bj : Nat} {A B C D T : List Nat} {H H1 : AH} (hn : (bw :: bj :: (A ++ (B ++ (C ++ D)))).Nodup) (hi : ∀ b ∈ bw :: bj :: (A ++ (B ++ (C ++ D))), b < H.nxt) (hx : H.nxt ≤ H1.nxt) (hs : ∀ b B', b ∉ bw :: bj :: (A ++ (B ++ (C ++ D))) → H.blk b = some B' → H1.blk b = some B') (hT : T.Nodup) (hm : ∀ b ∈ T, b ∈ C ∨ H.nxt ≤ b) : Upd (bw :: bj :: (A ++ (B ++ (C ++ D)))) H H1 (bw :: bj :: (A ++ (B ++ (T ++ D)))) := ⟨hx, hs, in_part.2.2.1 hm, (nd_part hn hi hT).2.2.1 hm⟩
theorem Upd.partD {bw bj : Nat} {A B C D T : List Nat} {H H1 : AH} (hn : (bw :: bj :: (A ++ (B ++ (C ++ D)))).Nodup) (hi : ∀ b ∈ bw :: bj :: (A ++ (B ++ (C ++ D))), b < H.nxt) (hx : H.nxt ≤ H1.nxt) (hs : ∀ b B', b ∉ bw :: bj :: (A ++ (B ++ (C ++ D))) → H.blk b = some B' → H1.blk b = some B') (hT : T.Nodup) (hm : ∀ b ∈ T, b ∈ D ∨ H.nxt ≤ b) : Upd (bw :: bj :: (A ++ (B ++ (C ++ D)))) H H1 (bw :: bj :: (A ++ (B ++ (C ++ T)))) := ⟨hx, hs, in_part.2.2.2 hm, (nd_part hn hi hT).2.2.2 hm⟩
theorem nd_log {bw bj : Nat} {A B C T : List Nat} (h : ((bw :: bj :: (A ++ (B ++ C))) ++ T).Nodup) : bw ∉ B ++ T ∧ bj ∉ B ++ T ∧ (B ++ T).Nodup ∧ (∀ x ∈ A, x ∉ B ++ T) ∧ ∀ x ∈ C, x ∉ B ++ T := by
  simp only [List.nodup_cons, List.nodup_append, List.mem_cons, List.mem_append] at *; grind
theorem Upd.logs {bw bj : Nat} {A B C T B' : List Nat} {H H1 : AH} (hn : ((bw :: bj :: (A ++ (B ++ C))) ++ T).Nodup) (hi : ∀ b ∈ (bw :: bj :: (A ++ (B ++ C))) ++ T, b < H.nxt) (g : Upd (B ++ T) H H1 B') : Upd ((bw :: bj :: (A ++ (B ++ C))) ++ T) H H1 (bw :: bj :: (A ++ (B' ++ C))) := by
  obtain ⟨g1, g2, g3, g4⟩ := g
  refine ⟨g1, fun x B hx hB => g2 x B (fun hm => hx ?_) hB, ?_, ?_⟩
  · simp only [List.cons_append, List.mem_append, List.mem_cons] at hm ⊢; grind
  · intro x hx; have := g3 x; simp only [List.cons_append, List.mem_append, List.mem_cons] at hx this ⊢; grind
  · simp only [List.cons_append, List.nodup_append, List.nodup_cons, List.mem_append, List.mem_cons] at *; grind
theorem Mv.sub {H H' : AH} {S : List Nat} {bw bj : Nat} {vj vt : AV} {pre post : List AV} {w : WorldD} {j : JobD} (h : Mv H S bw bj vj vt pre post w j) (hs : Sub H H') : Mv H' S bw bj vj vt pre post w j := by
  obtain ⟨n, vc, vl, cj, Sc, Sl, Sj, rfl, hb, hj, h1, h2, h3⟩ := h
  exact ⟨n, vc, vl, cj, Sc, Sl, Sj, rfl, hs.2 _ _ hb, hs.2 _ _ hj, h1.sub hs, h2.sub hs, Own.sub h3 hs⟩
theorem MvP.sub {H H' : AH} {S : List Nat} {bw bj oj t : Nat} {vj vt : AV} {pre post : List AV} {w : WorldD} {j : JobD} (h : MvP H S bw bj oj t vj vt pre post w j) (hs : Sub H H') : MvP H' S bw bj oj t vj vt pre post w j := ⟨h.mv.sub hs, h.ll, h.lj, h.lt, h.nw, h.tt, h.pl⟩
theorem Upd.cells {bw bj : Nat} {A B C D T : List Nat} {H H1 : AH} (hn : (bw :: bj :: (A ++ (B ++ (C ++ D)))).Nodup) (hi : ∀ b ∈ bw :: bj :: (A ++ (B ++ (C ++ D))), b < H.nxt) (s : Sub H H1) (F : Fresh H.nxt T) : Upd (bw :: bj :: (A ++ (B ++ (C ++ D)))) H H1 (bw :: bj :: (T ++ (B ++ (C ++ D)))) :=
  Upd.partA hn hi s.1 (fun b B' _ hB => s.2 b B' hB) F.1 (fun b hb => .inr (F.2 b hb))
theorem Upd.setI {S S' : List Nat} {H H' : AH} {b : Nat} (h : Upd S H H' S') (hb : b ∈ S) (B : Blk) : Upd S H (H'.set b B) S' :=
  ⟨h.1, fun x B' hx hB => by rw [blk_set_ne _ (by rintro rfl; exact hx hb)]; exact h.2.1 x B' hx hB, h.2.2.1, h.2.2.2⟩
def Kp (U : List Nat) (H G : AH) : Prop := H.nxt ≤ G.nxt ∧ ∀ b ∈ U, G.blk b = H.blk b
theorem Kp.refl (U : List Nat) (H : AH) : Kp U H H := ⟨Nat.le_refl _, fun _ _ => rfl⟩
theorem Kp.new {U : List Nat} {H G : AH} (h : Kp U H G) (hU : ∀ b ∈ U, b < H.nxt) (c : List AV) (s : Nat) : Kp U H (G.new c s) := ⟨Nat.le_succ_of_le h.1, fun b hb => by rw [blk_new, if_neg (by have := hU b hb; have := h.1; omega)]; exact h.2 b hb⟩
theorem Kp.set {U : List Nat} {H G : AH} (h : Kp U H G) {x : Nat} (hx : x ∉ U) (B : Blk) : Kp U H (G.set x B) := ⟨h.1, fun b hb => by rw [blk_set_ne _ (show ¬ b = x by rintro rfl; exact hx hb)]; exact h.2 b hb⟩
theorem Kp.own {α : Type} [Ob α] [Own α] {U S : List Nat} {H G : AH} {v : AV} {xs : List α} (h : OwnS H S v xs) (hs : ∀ b ∈ S, b ∈ U) (k : Kp U H G) : OwnS G S v xs := h.eq fun b hb => k.2 b (hs b hb)
theorem ACallK.mvr {P : Program} {W0 : World} {K : Kt} {g : FuncId} {xs : List AV} {H0 H : AH} {S : List Nat} {bw bj : Nat} {vj vt u : AV} {pre post : List AV} {p : WorldD × JobD} (h : ACalls P W0 g xs H (fun r H' => r = u ∧ MvR H S bw bj vj vt pre post p H')) (hw0 : H0.wf) (hs : Sub H0 H) (hS : ∀ b ∈ S, b < H0.nxt)
    (k : ∀ H1 S1, H1.wf → Mv H1 S1 bw bj vj vt pre post p.1 p.2 → Upd S H0 H1 S1 → (∀ b B, b ∉ S → H.blk b = some B → H1.blk b = some B) → H.nxt ≤ H1.nxt → (∀ b ∈ S1, b < H0.nxt ∨ H.nxt ≤ b) → K.k u H1) : ACallK (K := K) P W0 g xs H := by
  refine ACallK.of h.cl ?_
  rintro _ H1 ⟨⟨rfl, S1, h1, g1⟩, c1⟩
  exact k H1 S1 c1.1 h1 (g1.start hs) g1.2.1 g1.1 (fun b hb => (g1.2.2.1 b hb).imp (hS b) id)
end Go.Proofs.YtipfnhfcoolhaaaGreat.Aw
end
section
namespace Go.Proofs.YtipfnhfcoolhaaaGreat.Aw
open Go Go.RowKit
set_option maxRecDepth 100000
set_option maxHeartbeats 2000000
attribute [-go_sem] wr_eq
theorem log_ok (W0 : World) (bw bj oj t : Nat) (vj vt : AV) (pre post : List AV) (w : WorldD) (j : JobD) (S S2 : List Nat) (ec : List AV) (e : EvD) (H : AH) (hp : MvP H S bw bj oj t vj vt pre post w j) (he : Own.own H S2 ec e) (hn2 : (S ++ S2).Nodup) :
    ACalls Tryz.prog W0 88 [mvA bw bj oj t, .agg ec] H (fun r H' => r = .tup [] ∧ MvR H (S ++ S2) bw bj vj vt pre post ({ w with log := w.log ++ [{ e with who := t, serial := j.serial, tm := w.now, op := j.op }] }, j) H') := by
  refine acallw Tryz.func88 rfl (by kernel_rfl) (by kernel_rfl) fun hc hw => ?_
  obtain ⟨⟨hn, vc, vl, cj, Sc, Sl, Sj, rfl, bB, jB, oc, ol, oj_⟩, hll, hj, ht, hnw, htt, hpl⟩ := hp
  obtain ⟨vk, vr, Sk, Sr, rfl, rfl, f0, f1, f2, f3, f4, f5, f6, f7, f8, f9, f10, f11, f12, f13, f14, f15, f16⟩ := oj_
  have lc := oc.leaf; have cc := oc.one
  have ll := ol.leaf; have cl := ol.one
  have lk := f15.leaf; have ck := f15.one
  have lr := f16.leaf; have cr := f16.one
  obtain ⟨lj, cj⟩ := hj
  obtain ⟨lt, ct⟩ := ht
  have hm0 : Mv H (bw :: bj :: (Sc ++ (Sl ++ (Sk ++ Sr)))) bw bj vj vt pre post w j := ⟨hn, vc, vl, _, Sc, Sl, Sk ++ Sr, rfl, bB, jB, oc, ol, vk, vr, Sk, Sr, rfl, rfl, f0, f1, f2, f3, f4, f5, f6, f7, f8, f9, f10, f11, f12, f13, f14, f15, f16⟩
  have hnS : ∀ b ∈ bw :: bj :: (Sc ++ (Sl ++ (Sk ++ Sr))), b < H.nxt := fun b hb => hw.lt' (hm0.isin b hb)
  obtain ⟨hnw1, hnj1, hne, hne', hU, nwU, njU, mC, mL, mK, mR, z0, z1, z2, y0, z0', y0', y1, y2⟩ := mvf hn hnS
  simp only [wcs] at bB
  simp only [List.cons_append, List.nil_append] at jB
  obtain ⟨vq, Sq_, rfl, rfl, q0, q1, q2, q3, q4, q5, q6, q7, q8, q9, q10, q11, q12⟩ := he
  have lq := q12.leaf; have cq := q12.one
  repeat' (first | simp -implicitDefEqProofs only [go_sem] | (simp -implicitDefEqProofs (disch := omega) only [bB, jB, hne, hne', z0, z1, z2, y0, y1, y2, z0', y0', blk_set_self, wr_pre hpl, wr_pre0 hpl, drop_pre hpl, drop_pre0 hpl, lc, cc, ll, cl, lk, ck, lr, cr, lj, cj, lt, ct, wr_succ, wr_zero, wr_none, set_set, Bool.and_self, if_false, List.length_append, List.length_cons, lq, cq]) | (rw [if_pos (by omega)]) | ((with_reducible refine adraw_plan [(0, []), (1, []), (2, []), (3, []), (4, []), (5, []), (6, []), (7, []), (8, []), (9, []), (10, []), (11, []), (12, []), (13, []), (14, []), (15, []), (16, []), (17, []), (18, [2, 3, 4, 5, 6, 7, 8, 9, 10, 11, 12, 13, 14, 15, 16]), (19, []), (20, [7, 8, 9, 10, 11, 12, 13, 14, 15, 16]), (21, []), (22, [12, 13, 14, 15, 16]), (23, []), (24, [])] ?_ ?_ ?_); (· kernel_rfl); (· decide +kernel)) | ((with_reducible refine adraw_plan [(0, []), (1, []), (2, []), (3, []), (4, []), (5, []), (6, []), (7, []), (8, [0, 1, 2, 3, 4, 5, 6]), (9, [0, 1]), (10, []), (11, []), (12, [])] ?_ ?_ ?_); (· kernel_rfl); (· decide +kernel)))
  have hq : ∀ b ∈ S2, b < H.nxt := fun b hb => hw.lt' (q12.isin b hb)
  have hnA : ∀ b ∈ (bw :: bj :: (Sc ++ (Sl ++ (Sk ++ Sr)))) ++ S2, b < H.nxt := fun b hb => (List.mem_append.1 hb).elim (hnS b) (hq b)
  obtain ⟨a1, a2, a3, a4, a5⟩ := nd_log hn2
  have hlA : ∀ b ∈ Sl ++ S2, b < H.nxt := fun b hb => hnA b (by simp only [List.cons_append, List.mem_cons, List.mem_append] at hb ⊢; grind)
  refine app_one (x := { e with who := t, serial := j.serial, tm := w.now, op := j.op }) (S := Sl) (S2 := S2) (ol.sub (by exact by repeat (first | exact Sub.refl _ | assumption | refine Sub.new hc.1 ?_ _ _ | refine Sub.set hc.1 ?_ (by omega) _ | refine Sub.trans ?_ (by assumption)))) (EvD.own_mk q0 (by simp only [inI64]; omega) f4 hnw f0 f1 f2 f3 q8 q9 q10 q11 (q12.sub (by exact by repeat (first | exact Sub.refl _ | assumption | refine Sub.new hc.1 ?_ _ _ | refine Sub.set hc.1 ?_ (by omega) _ | refine Sub.trans ?_ (by assumption))))) a3 ?_ ?_ (fun hm => by have := hlA _ (List.mem_append_left _ hm); omega) ?_
  · exact ((hw.new _ _).new _ _).new _ _
  · simp only [go_sem]
  intro H2 Sl2 vl2 w2 o2 g2 m2
  have b0 := g2.2.1 bw _ a1 (by simp only [go_sem, z0, z1, z2, if_false]; exact bB)
  have b1 := g2.2.1 bj _ a2 (by simp only [go_sem, y0, y1, y2, if_false]; exact jB)
  have b2 := g2.2.1 H.nxt _ (fun hm => by have := hlA _ hm; omega) (by simp only [go_sem]; rfl)
  have l2 := o2.leaf; have c2 := o2.one
  repeat' (first | simp -implicitDefEqProofs only [go_sem] | (simp -implicitDefEqProofs (disch := omega) only [b0, b1, b2, bB, jB, hne, hne', z0, z1, z2, y0, y1, y2, z0', y0', blk_set_self, wr_pre hpl, wr_pre0 hpl, drop_pre hpl, drop_pre0 hpl, lc, cc, ll, cl, lk, ck, lr, cr, lj, cj, lt, ct, wr_succ, wr_zero, wr_none, set_set, Bool.and_self, if_false, List.length_append, List.length_cons, l2, c2]))
  have k15 := g2.own (f15.sub (by exact by repeat (first | exact Sub.refl _ | assumption | refine Sub.new hc.1 ?_ _ _ | refine Sub.set hc.1 ?_ (by omega) _ | refine Sub.trans ?_ (by assumption)))) (fun b hb => a5 b (List.mem_append_left _ hb))
  have k16 := g2.own (f16.sub (by exact by repeat (first | exact Sub.refl _ | assumption | refine Sub.new hc.1 ?_ _ _ | refine Sub.set hc.1 ?_ (by omega) _ | refine Sub.trans ?_ (by assumption)))) (fun b hb => a5 b (List.mem_append_right _ hb))
  have gU := Upd.logs hn2 hnA (g2.start (H := H) (by exact by repeat (first | exact Sub.refl _ | assumption | refine Sub.new hc.1 ?_ _ _ | refine Sub.set hc.1 ?_ (by omega) _ | refine Sub.trans ?_ (by assumption))))
  refine retK_nil ⟨rfl, MvR.fin (w' := { w with log := w.log ++ [{ e with who := t, serial := j.serial, tm := w.now, op := j.op }] }) w2 ⟨List.mem_append_left _ hm0.in2.1, List.mem_append_left _ hm0.in2.2⟩ gU (g2.own (oc.sub (by exact by repeat (first | exact Sub.refl _ | assumption | refine Sub.new hc.1 ?_ _ _ | refine Sub.set hc.1 ?_ (by omega) _ | refine Sub.trans ?_ (by assumption)))) a4) o2 ⟨vk, vr, Sk, Sr, rfl, rfl, f0, f1, f2, f3, f4, f5, f6, f7, f8, f9, f10, f11, f12, f13, f14, k15, k16⟩ hw (fun b h1 h2 _ => ?_) (Nat.le_refl _) ?_ ?_⟩
  · simp only [blk_set, if_neg h1]
  · exact blk_set_self _ _ _
  · simp only [blk_set, hne', if_false]; exact b1
theorem effect_ok (W0 : World) (bw bj oj t : Nat) (vj vt : AV) (pre post : List AV) (w : WorldD) (j : JobD) (code win : Int) (S : List Nat) (H : AH) (hp : MvP H S bw bj oj t vj vt pre post w j) (hc1 : inI64 code) (hc2 : inI64 win) :
    ACalls Tryz.prog W0 246 [mvA bw bj oj t, .v (.int .i64 code), .v (.int .i64 win)] H (fun r H' => r = .tup [] ∧ MvR H S bw bj vj vt pre post (pointD w t j code win) H') := by
  refine acallw Tryz.func246 rfl (by kernel_rfl) (by kernel_rfl) fun hc hw => ?_
  have hp0 := hp
  obtain ⟨⟨hn, vc, vl, cj, Sc, Sl, Sj, rfl, bB, jB, oc, ol, oj_⟩, hll, hj, ht, hnw, htt, hpl⟩ := hp
  obtain ⟨vk, vr, Sk, Sr, rfl, rfl, f0, f1, f2, f3, f4, f5, f6, f7, f8, f9, f10, f11, f12, f13, f14, f15, f16⟩ := oj_
  have lc := oc.leaf; have cc := oc.one
  have ll := ol.leaf; have cl := ol.one
  have lk := f15.leaf; have ck := f15.one
  have lr := f16.leaf; have cr := f16.one
  obtain ⟨lj, cj⟩ := hj
  obtain ⟨lt, ct⟩ := ht
  have hm0 : Mv H (bw :: bj :: (Sc ++ (Sl ++ (Sk ++ Sr)))) bw bj vj vt pre post w j := ⟨hn, vc, vl, _, Sc, Sl, Sk ++ Sr, rfl, bB, jB, oc, ol, vk, vr, Sk, Sr, rfl, rfl, f0, f1, f2, f3, f4, f5, f6, f7, f8, f9, f10, f11, f12, f13, f14, f15, f16⟩
  have hnS : ∀ b ∈ bw :: bj :: (Sc ++ (Sl ++ (Sk ++ Sr))), b < H.nxt := fun b hb => hw.lt' (hm0.isin b hb)
  obtain ⟨hnw1, hnj1, hne, hne', hU, nwU, njU, mC, mL, mK, mR, z0, z1, z2, y0, z0', y0', y1, y2⟩ := mvf hn hnS
  simp only [wcs] at bB
  simp only [List.cons_append, List.nil_append] at jB
  repeat' (first | simp -implicitDefEqProofs only [go_sem])
  have hlog := log_ok W0 bw bj oj t vj vt pre post w j (bw :: bj :: (Sc ++ (Sl ++ (Sk ++ Sr)))) [] _ ⟨2, 0, 0, 0, op0, code, win, 0, 0, []⟩ _ (hp0.sub (show Sub H (H.new [.ptr bw 0, .v (.int .i64 t), .ptr bj oj] 3) by exact by repeat (first | exact Sub.refl _ | assumption | refine Sub.new hc.1 ?_ _ _ | refine Sub.set hc.1 ?_ (by omega) _ | refine Sub.trans ?_ (by assumption)))) (EvD.own_mk (by simp only [inI64]; omega) inI_z inI_z inI_z inI_z (by show (0 : Nat) ≤ big; exact Nat.zero_le _) inI_z inI_z hc1 hc2 inI_z inI_z (ownS_none _)) (by rw [List.append_nil]; exact hn)
  rw [List.append_nil] at hlog
  refine ACallK.mvr (H0 := H) hlog hw (by exact by repeat (first | exact Sub.refl _ | assumption | refine Sub.new hc.1 ?_ _ _ | refine Sub.set hc.1 ?_ (by omega) _ | refine Sub.trans ?_ (by assumption))) hnS ?_
  intro H2 S2 w2 hs2 g2 kq m2 hS2
  have hm2 := hs2
  obtain ⟨hn2, vc2, vl2, cj2, Sc2, Sl2, Sj2, rfl, bB2, jB2, oc2, ol2, oj2⟩ := hs2
  obtain ⟨vk2, vr2, Sk2, Sr2, rfl, rfl, f_20, f_21, f_22, f_23, f_24, f_25, f_26, f_27, f_28, f_29, f_210, f_211, f_212, f_213, f_214, f_215, f_216⟩ := oj2
  have lc2 := oc2.leaf; have cc2 := oc2.one
  have ll2 := ol2.leaf; have cl2 := ol2.one
  have lk2 := f_215.leaf; have ck2 := f_215.one
  have lr2 := f_216.leaf; have cr2 := f_216.one
  simp only [wcs] at bB2
  simp only [List.cons_append, List.nil_append] at jB2
  have a0 := kq H.nxt _ (fun hm => by have := hnS _ hm; omega) (by simp only [go_sem]; rfl)
  repeat' (first | simp -implicitDefEqProofs only [go_sem] | (simp -implicitDefEqProofs (disch := omega) only [a0, bB2, jB2, hne, hne', z0, z1, z2, y0, y1, y2, z0', y0', blk_set_self, wr_pre hpl, wr_pre0 hpl, drop_pre hpl, drop_pre0 hpl, lc2, cc2, ll2, cl2, lk2, ck2, lr2, cr2, lj, cj, lt, ct, wr_succ, wr_zero, wr_none, set_set, Bool.and_self, if_false, List.length_append, List.length_cons]) | (with_reducible refine And.intro (by omega) ?_) | fail)
  refine retK_nil ⟨rfl, MvR.fin (w' := (pointD w t j code win).1) (j' := { j with code := code }) w2 hm0.in2 g2 oc2 ol2 ⟨vk2, vr2, Sk2, Sr2, rfl, rfl, f_20, f_21, f_22, f_23, f_24, f_25, f_26, f_27, f_28, f_29, f_210, f_211, f_212, f_213, hc1, f_215, f_216⟩ hw (fun b h1 h2 _ => ?_) (Nat.le_refl _) ?_ ?_⟩
  · simp only [blk_set, if_neg h2]
  · simp only [blk_set, hne, if_false]; exact bB2
  · exact blk_set_self _ _ _
theorem finish_ok (W0 : World) (bw bj oj t : Nat) (vj vt : AV) (pre post : List AV) (w : WorldD) (j : JobD) (code : Int) (S : List Nat) (H : AH) (hp : MvP H S bw bj oj t vj vt pre post w j) (hc1 : inI64 code) :
    ACalls Tryz.prog W0 174 [mvA bw bj oj t, .v (.int .i64 code)] H (fun r H' => r = .tup [] ∧ MvR H S bw bj vj vt pre post (endD w t j code) H') := by
  refine acallw Tryz.func174 rfl (by kernel_rfl) (by kernel_rfl) fun hc hw => ?_
  have hp0 := hp
  obtain ⟨⟨hn, vc, vl, cj, Sc, Sl, Sj, rfl, bB, jB, oc, ol, oj_⟩, hll, hj, ht, hnw, htt, hpl⟩ := hp
  obtain ⟨vk, vr, Sk, Sr, rfl, rfl, f0, f1, f2, f3, f4, f5, f6, f7, f8, f9, f10, f11, f12, f13, f14, f15, f16⟩ := oj_
  have lc := oc.leaf; have cc := oc.one
  have ll := ol.leaf; have cl := ol.one
  have lk := f15.leaf; have ck := f15.one
  have lr := f16.leaf; have cr := f16.one
  obtain ⟨lj, cj⟩ := hj
  obtain ⟨lt, ct⟩ := ht
  have hm0 : Mv H (bw :: bj :: (Sc ++ (Sl ++ (Sk ++ Sr)))) bw bj vj vt pre post w j := ⟨hn, vc, vl, _, Sc, Sl, Sk ++ Sr, rfl, bB, jB, oc, ol, vk, vr, Sk, Sr, rfl, rfl, f0, f1, f2, f3, f4, f5, f6, f7, f8, f9, f10, f11, f12, f13, f14, f15, f16⟩
  have hnS : ∀ b ∈ bw :: bj :: (Sc ++ (Sl ++ (Sk ++ Sr))), b < H.nxt := fun b hb => hw.lt' (hm0.isin b hb)
  obtain ⟨hnw1, hnj1, hne, hne', hU, nwU, njU, mC, mL, mK, mR, z0, z1, z2, y0, z0', y0', y1, y2⟩ := mvf hn hnS
  simp only [wcs] at bB
  simp only [List.cons_append, List.nil_append] at jB
  repeat' (first | simp -implicitDefEqProofs only [go_sem])
  refine ACallK.mvr (H0 := H) (effect_ok _ bw bj oj t vj vt pre post w j code (-1) _ _ (hp0.sub (by exact by repeat (first | exact Sub.refl _ | assumption | refine Sub.new hc.1 ?_ _ _ | refine Sub.set hc.1 ?_ (by omega) _ | refine Sub.trans ?_ (by assumption)))) hc1 (by simp only [inI64]; omega)) hw (by exact by repeat (first | exact Sub.refl _ | assumption | refine Sub.new hc.1 ?_ _ _ | refine Sub.set hc.1 ?_ (by omega) _ | refine Sub.trans ?_ (by assumption))) hnS ?_
  intro H2 S2 w2 hs2 g2 kq m2 hS2
  have hm2 := hs2
  obtain ⟨hn2, vc2, vl2, cj2, Sc2, Sl2, Sj2, rfl, bB2, jB2, oc2, ol2, oj2⟩ := hs2
  obtain ⟨vk2, vr2, Sk2, Sr2, rfl, rfl, f_20, f_21, f_22, f_23, f_24, f_25, f_26, f_27, f_28, f_29, f_210, f_211, f_212, f_213, f_214, f_215, f_216⟩ := oj2
  have lc2 := oc2.leaf; have cc2 := oc2.one
  have ll2 := ol2.leaf; have cl2 := ol2.one
  have lk2 := f_215.leaf; have ck2 := f_215.one
  have lr2 := f_216.leaf; have cr2 := f_216.one
  simp only [wcs] at bB2
  simp only [List.cons_append, List.nil_append] at jB2
  have a0 := kq H.nxt _ (fun hm => by have := hnS _ hm; omega) (by simp only [go_sem]; rfl)
  repeat' (first | simp -implicitDefEqProofs only [go_sem] | (simp -implicitDefEqProofs (disch := omega) only [a0, bB2, jB2, hne, hne', z0, z1, z2, y0, y1, y2, z0', y0', blk_set_self, wr_pre hpl, wr_pre0 hpl, drop_pre hpl, drop_pre0 hpl, lc2, cc2, ll2, cl2, lk2, ck2, lr2, cr2, lj, cj, lt, ct, wr_succ, wr_zero, wr_none, set_set, Bool.and_self, if_false, List.length_append, List.length_cons]) | (with_reducible refine And.intro (by omega) ?_) | fail)
  refine retK_nil ⟨rfl, MvR.fin (w' := (endD w t j code).1) (j' := { j with code := code, pc := 11 }) w2 hm0.in2 g2 oc2 ol2 ⟨vk2, vr2, Sk2, Sr2, rfl, rfl, f_20, f_21, f_22, f_23, f_24, (by simp only [inI64]; omega), f_26, f_27, f_28, f_29, f_210, f_211, f_212, f_213, f_214, f_215, f_216⟩ hw (fun b h1 h2 _ => ?_) (Nat.le_refl _) ?_ ?_⟩
  · simp only [blk_set, if_neg h2]
  · simp only [blk_set, hne, if_false]; exact bB2
  · exact blk_set_self _ _ _
end Go.Proofs.YtipfnhfcoolhaaaGreat.Aw
end
section
namespace Go.Proofs.YtipfnhfcoolhaaaGreat.Aw
open Go Go.RowKit
set_option maxRecDepth 100000
set_option maxHeartbeats 1000000
theorem l1In_ok (W0 : World) (x lo hi : Int) (H : AH) : ACalls Tryz.prog W0 64 [.v (.int .i64 x), .v (.int .i64 lo), .v (.int .i64 hi)] H (fun v H' => v = .v (.bool (decide (lo ≤ x ∧ x ≤ hi))) ∧ H' = H) := by
  refine acallw Tryz.func64 rfl (by kernel_rfl) (by kernel_rfl) fun hc hw => ?_
  repeat' (first | simp -implicitDefEqProofs only [go_sem] | refine agrd_dec (fun _ => ?_) (fun _ => ?_) | refine retK_eq ?_)
  all_goals (refine bv ?_; simp; omega)
theorem within_ok (W0 : World) (x lo hi : Int) (H : AH) : ACalls Tryz.prog W0 86 [.v (.int .i64 x), .v (.int .i64 lo), .v (.int .i64 hi)] H (fun v H' => v = .v (.bool (decide (lo ≤ x ∧ x ≤ hi))) ∧ H' = H) := by
  refine acallw Tryz.func86 rfl (by kernel_rfl) (by kernel_rfl) fun hc hw => ?_
  repeat' (first | simp -implicitDefEqProofs only [go_sem] | refine agrd_dec (fun _ => ?_) (fun _ => ?_) | refine retK_eq ?_)
  all_goals (refine bv ?_; simp; omega)
theorem l4Byte_ok (W0 : World) (x : Int) (H : AH) : ACalls Tryz.prog W0 195 [.v (.int .i64 x)] H (fun v H' => v = .v (.bool (decide (keyByte x))) ∧ H' = H) := by
  refine acallw Tryz.func195 rfl (by kernel_rfl) (by kernel_rfl) fun hc hw => ?_
  repeat' (first | simp -implicitDefEqProofs only [go_sem] | refine agrd_decf (fun _ => ?_) (fun _ => ?_) | refine ACallK.eq (l1In_ok _ _ _ _ _) ?_ | refine retK_eq ?_)
  all_goals (refine bv ?_; simp only [decide_eq_true_eq, true_iff]; simp only [keyByte]; omega)
theorem KindWord_impl (W0 : World) (x : Int) (H : AH) : ACalls Tryz.prog W0 214 [.v (.int .i64 x)] H (fun v H' => v = .v (.string (kindW x)) ∧ H' = H) := by
  refine acallw Tryz.func214 rfl (by kernel_rfl) (by kernel_rfl) fun hc hw => ?_
  repeat' (first | simp -implicitDefEqProofs only [go_sem] | refine acond_dec (fun _ => ?_) (fun _ => ?_) | refine retK_eq ?_)
  all_goals simp_all [kindW]
theorem KindWord_spec (W0 : World) (x : Int) (H : AH) : ACalls Tryz.prog W0 128 [.v (.int .i64 x)] H (fun v H' => v = .v (.string (kindW x)) ∧ H' = H) := by
  refine acallw Tryz.func128 rfl (by kernel_rfl) (by kernel_rfl) fun hc hw => ?_
  repeat' (first | simp -implicitDefEqProofs only [go_sem] | refine acond_ndec (fun _ => ?_) (fun _ => ?_) | simp -implicitDefEqProofs (disch := omega) only [wrap_in, u8_small, Int.tmod_eq_emod_of_nonneg, Int.tdiv_eq_ediv_of_nonneg] | refine ACallK.eq (l1In_ok _ _ _ _ _) ?_ | refine And.intro (by omega) (And.intro (by omega) ?_) | refine retK_eq ?_)
  · rw [(kindW_empty x).2 (by assumption)]
  · obtain rfl | rfl | rfl : x = 1 ∨ x = 2 ∨ x = 3 := by omega
    all_goals
      repeat' (first | simp -implicitDefEqProofs only [go_sem] | refine retK_back (by assumption) ?_ | fail)
      all_goals rfl
theorem keyOk_false {s : ByteArray} (i : Nat) (h : i < s.size) (hk : ¬ keyByte (bt s i)) : keyOk s = false := by
  unfold keyOk
  rw [Bool.and_eq_false_iff]
  right
  rw [List.all_eq_false]
  exact ⟨i, by simpa using h, by simpa using hk⟩
theorem keyOk_eq {s : ByteArray} (h : ∀ i, i < s.size → keyByte (bt s i)) : keyOk s = decide (1 ≤ (s.size : Int) ∧ (s.size : Int) ≤ 4) := by
  unfold keyOk
  rw [show ((List.range s.size).all fun i => decide (keyByte (bt s i))) = true by rw [List.all_eq_true]; intro i hi; simpa using h i (by simpa using hi)]
  rw [Bool.and_true, Bool.eq_iff_iff]
  simp
  omega
theorem KeyOk_spec (W0 : World) (s : ByteArray) (H : AH) (hs : s.size ≤ big) : ACalls Tryz.prog W0 113 [.v (.string s)] H (fun v H' => v = .v (.bool (keyOk s)) ∧ H' = H) := by
  refine acallw Tryz.func113 rfl (by kernel_rfl) (by kernel_rfl) fun hc hw => ?_
  simp only [big] at hs
  repeat' (first | simp -implicitDefEqProofs only [go_sem])
  refine acode_while (fun i : Nat => [(0, .v (.string s)), (3, .v (.int .i64 i))]) (fun i H' => H' = H ∧ i ≤ s.size ∧ ∀ j, j < i → keyByte (bt s j)) (fun i => s.size - i) 0 ⟨rfl, by omega, by omega⟩ ?_
  rintro i _ ⟨rfl, hi, hP⟩
  repeat' (first | simp -implicitDefEqProofs only [go_sem] | refine acond_dec (fun _ => ?_) (fun _ => ?_) | refine acond_ndec (fun _ => ?_) (fun _ => ?_) | simp -implicitDefEqProofs (disch := omega) only [wrap_in, u8_small, Int.tmod_eq_emod_of_nonneg, Int.tdiv_eq_ediv_of_nonneg] | refine aix_strn (fun _ _ => ?_) | refine ACallK.eq (l4Byte_ok _ _ _) ?_ | refine ACallK.eq (l1In_ok _ _ _ _ _) ?_ | refine retK_eq ?_)
  · rw [keyOk_false i (by omega) (by assumption)]
  · refine back (i + 1) ⟨by omega, fun j hj => ?_⟩
    rcases Nat.lt_succ_iff_lt_or_eq.1 hj with h | rfl
    · exact hP j h
    · assumption
  · rw [keyOk_eq fun j hj => hP j (by omega)]
theorem KeyOk_impl (W0 : World) (s : ByteArray) (H : AH) (hs : s.size ≤ big) : ACalls Tryz.prog W0 101 [.v (.string s)] H (fun v H' => v = .v (.bool (keyOk s)) ∧ H' = H) := by
  refine acallw Tryz.func101 rfl (by kernel_rfl) (by kernel_rfl) fun hc hw => ?_
  simp only [big] at hs
  repeat' (first | simp -implicitDefEqProofs only [go_sem])
  refine acode_while (fun i : Nat => [(0, .v (.string s)), (6, .v (.int .i64 s.size)), (7, .v (.int .i64 i))]) (fun i H' => H' = H ∧ i ≤ s.size ∧ ∀ j, j < i → keyByte (bt s j)) (fun i => s.size - i) 0 ⟨rfl, by omega, by omega⟩ ?_
  rintro i _ ⟨rfl, hi, hP⟩
  repeat' (first | simp -implicitDefEqProofs only [go_sem] | refine acond_dec (fun _ => ?_) (fun _ => ?_) | refine acond_ndec (fun _ => ?_) (fun _ => ?_) | refine agrd_dec (fun _ => ?_) (fun _ => ?_) | refine agrd_decf (fun _ => ?_) (fun _ => ?_) | simp -implicitDefEqProofs (disch := omega) only [wrap_in, u8_small, Int.tmod_eq_emod_of_nonneg, Int.tdiv_eq_ediv_of_nonneg] | refine aix_strn (fun _ _ => ?_) | refine ACallK.eq (within_ok _ _ _ _ _) ?_ | refine retK_eq ?_)
  all_goals first
    | (refine back (i + 1) ⟨by omega, fun j hj => ?_⟩
       rcases Nat.lt_succ_iff_lt_or_eq.1 hj with h | rfl
       · exact hP j h
       · unfold keyByte; omega)
    | rw [keyOk_false i (by omega) (by unfold keyByte; omega)]
    | rw [keyOk_eq fun j hj => hP j (by omega)]
theorem eqAt_Op (x y : OpD) : EqAt Tryz.prog 89 [.int .i64 x.kind, .string x.key, .int .i64 x.what, .int .i64 x.val] [.int .i64 y.kind, .string y.key, .int .i64 y.what, .int .i64 y.val] (decide (x = y)) := by
  refine eqAt_of (r := decide (x = y)) (by kernel_rfl) (Eq.trans (by kernel_rfl : _ = some ((x.kind == y.kind) && ((x.key.toList == y.key.toList) && ((x.what == y.what) && ((x.val == y.val) && true))))) ?_)
  simp [bytes_eq_iff, OpD.ext_iff', ← decide_eq_decide]
  rfl
theorem OpOk_spec (W0 : World) (cs : List AV) (o : OpD) (H : AH) (ho : Ob.rep W0 H cs o) : ACalls Tryz.prog W0 227 [.agg cs] H (fun v H' => v = .v (.bool (opOk o)) ∧ H' = H) := by
  refine acallw Tryz.func227 rfl (by kernel_rfl) (by kernel_rfl) fun hc hw => ?_
  obtain ⟨rfl, h1, h2, h3, h4⟩ := ho
  repeat' (first | simp -implicitDefEqProofs only [go_sem] | refine acond_dec (fun _ => ?_) (fun _ => ?_) | refine agrd_dec (fun _ => ?_) (fun _ => ?_) | refine agrd_ndec (fun _ => ?_) (fun _ => ?_) | refine ACallK.eq (KeyOk_spec _ _ _ (by assumption)) ?_ | refine ACallK.eq (KindWord_spec _ _ _) ?_ | refine ACallK.eq (l1In_ok _ _ _ _ _) ?_ | (refine agg_eq (eqAt_Op ⟨_, _, _, _⟩ ⟨_, _, _, _⟩) ?_) | refine agrd_bt (fun _ => ?_) (fun _ => ?_) | refine retK_back (by assumption) ?_ | fail)
  all_goals (refine bv ?_; first | (simp_all [opOk, kindW_empty, OpD.ext_iff']; done) | (simp_all [opOk, kindW_empty, OpD.ext_iff']; omega))
theorem OpOk_impl (W0 : World) (cs : List AV) (o : OpD) (H : AH) (ho : Ob.rep W0 H cs o) : ACalls Tryz.prog W0 133 [.agg cs] H (fun v H' => v = .v (.bool (opOk o)) ∧ H' = H) := by
  refine acallw Tryz.func133 rfl (by kernel_rfl) (by kernel_rfl) fun hc hw => ?_
  obtain ⟨rfl, h1, h2, h3, h4⟩ := ho
  repeat' (first | simp -implicitDefEqProofs only [go_sem] | refine acond_dec (fun _ => ?_) (fun _ => ?_) | refine agrd_dec (fun _ => ?_) (fun _ => ?_) | refine agrd_ndec (fun _ => ?_) (fun _ => ?_) | refine ACallK.eq (KeyOk_impl _ _ _ (by assumption)) ?_ | refine ACallK.eq (KindWord_impl _ _ _) ?_ | refine ACallK.eq (within_ok _ _ _ _ _) ?_ | (refine agg_eq (eqAt_Op ⟨_, _, _, _⟩ ⟨_, _, _, _⟩) ?_) | refine agrd_bt (fun _ => ?_) (fun _ => ?_) | refine retK_back (by assumption) ?_ | fail)
  all_goals (refine bv ?_; first | (simp_all [opOk, kindW_empty, OpD.ext_iff']; done) | (simp_all [opOk, kindW_empty, OpD.ext_iff']; omega))
end Go.Proofs.YtipfnhfcoolhaaaGreat.Aw
end
section
namespace Go.Proofs.YtipfnhfcoolhaaaGreat.Aw
open Go Go.RowKit
set_option maxRecDepth 100000
set_option maxHeartbeats 1000000
theorem keyOk_size {s : ByteArray} (h : keyOk s = true) : 1 ≤ s.size ∧ s.size ≤ 4 := of_decide_eq_true ((Bool.and_eq_true _ _).mp h).1
theorem packN_lt {s : ByteArray} (h : keyOk s = true) {i : Nat} (hi : i ≤ s.size) : 0 ≤ packN s i ∧ packN s i < 4294967296 := by
  have h1 := keyOk_size h
  have h2 := packN_bd s i
  have : i = 0 ∨ i = 1 ∨ i = 2 ∨ i = 3 ∨ i = 4 := by omega
  rcases this with e | e | e | e | e <;> rw [e] at h2 ⊢ <;> simp at h2 <;> omega
theorem PackKey_spec (W0 : World) (s : ByteArray) (H : AH) (hs : s.size ≤ big) : ACalls Tryz.prog W0 264 [.v (.string s)] H (fun v H' => v = .v (.int .i64 (packKey s)) ∧ H' = H) := by
  refine acallw Tryz.func264 rfl (by kernel_rfl) (by kernel_rfl) fun hc hw => ?_
  simp only [big] at hs
  repeat' (first | simp -implicitDefEqProofs only [go_sem] | refine ACallK.eq (KeyOk_spec _ _ _ (by simp only [big]; omega)) ?_ | refine acond_split (fun _ => ?_) (fun _ => ?_) | refine retK_eq ?_)
  · rw [packKey, if_neg (by simp_all)]
  · have hk : keyOk s = true := by simp_all
    have hz := keyOk_size hk
    refine acode_while (fun i : Nat => [(0, .v (.string s)), (3, .v (.int .i64 (packN s i))), (4, .v (.int .i64 i))]) (fun i H' => H' = H ∧ i ≤ s.size) (fun i => s.size - i) 0 ⟨rfl, by omega⟩ ?_ (by simp only [frOk, go_sem, packN]; simp)
    rintro i _ ⟨rfl, hi⟩
    have hp := packN_lt hk hi
    repeat' (first | simp -implicitDefEqProofs only [go_sem] | refine acond_dec (fun _ => ?_) (fun _ => ?_) | simp -implicitDefEqProofs (disch := omega) only [wrap_in, u8_small, Int.tmod_eq_emod_of_nonneg, Int.tdiv_eq_ediv_of_nonneg] | refine aix_strn (fun _ _ => ?_) | refine retK_eq ?_)
    · exact back (i + 1) (by omega) (by omega) (by simp only [frOk, go_sem, packN, Int.natCast_add]; simp)
    · rw [packKey, if_pos hk, show i = s.size by omega]
theorem ReadFixed_ok (W0 : World) (s : ByteArray) (H : AH) (hk : keyOk s = true) : ACalls Tryz.prog W0 267 [.v (.string s), .v (.int .i64 s.size)] H (fun v H' => v = .tup [.v (.int .i64 (packN s s.size)), .v (.bool true)] ∧ H' = H) := by
  refine acallw Tryz.func267 rfl (by kernel_rfl) (by kernel_rfl) fun hc hw => ?_
  have hz := keyOk_size hk
  repeat' (first | simp -implicitDefEqProofs only [go_sem] | refine acond_dec (fun _ => ?_) (fun _ => ?_) | refine agrd_ndecf (fun _ => ?_) (fun _ => ?_) | refine ACallK.eq (within_ok _ _ _ _ _) ?_ | refine retK_eq ?_)
  · exfalso; omega
  · refine acode_while (fun i : Nat => [(0, .v (.string s)), (6, .v (.int .i64 (packN s i))), (17, .v (.int .i64 s.size)), (18, .v (.int .i64 i))]) (fun i H' => H' = H ∧ i ≤ s.size) (fun i => s.size - i) 0 ⟨rfl, by omega⟩ ?_ (by simp only [frOk, go_sem, packN]; simp)
    rintro i _ ⟨rfl, hi⟩
    have hp := packN_lt hk hi
    repeat' (first | simp -implicitDefEqProofs only [go_sem] | refine acond_dec (fun _ => ?_) (fun _ => ?_) | simp -implicitDefEqProofs (disch := omega) only [wrap_in, u8_small, Int.tmod_eq_emod_of_nonneg, Int.tdiv_eq_ediv_of_nonneg] | refine aix_strn (fun _ _ => ?_) | (rw [bits_join .i64 62 (by decide) (fun n h0 h1 => Go.IntWalk.i64_in n (by omega)) 8 _ _ (by omega) (by omega) (by omega) (by omega) (by omega) (by omega)]) | refine retK_eq ?_)
    · exact back (i + 1) (by omega) (by omega) (by simp only [frOk, go_sem, packN, Int.natCast_add]; simp)
    · rw [show i = s.size by omega]
  · exfalso; omega
theorem PackKey_impl (W0 : World) (s : ByteArray) (H : AH) (hs : s.size ≤ big) : ACalls Tryz.prog W0 245 [.v (.string s)] H (fun v H' => v = .v (.int .i64 (packKey s)) ∧ H' = H) := by
  refine acallw Tryz.func245 rfl (by kernel_rfl) (by kernel_rfl) fun hc hw => ?_
  cases hk : keyOk s with
  | false => 
    repeat' (first | simp -implicitDefEqProofs only [go_sem] | refine ACallK.eq (KeyOk_impl _ _ _ hs) ?_ | rw [hk] | refine retK_eq ?_)
    all_goals (rw [packKey, if_neg (by simp_all)])
  | true =>
    repeat' (first | simp -implicitDefEqProofs only [go_sem] | refine ACallK.eq (KeyOk_impl _ _ _ hs) ?_ | rw [hk] | refine ACallK.eq (ReadFixed_ok _ _ _ hk) ?_ | refine retK_eq ?_)
    all_goals (rw [packKey, if_pos hk])
theorem UnpackKey_spec (W0 : World) (n : Int) (H : AH) : ACalls Tryz.prog W0 127 [.v (.int .i64 n)] H (fun v H' => v = .tup [.v (.string (unpackKey n).1), .v (.bool (unpackKey n).2)] ∧ H' = H) := by
  refine acallw Tryz.func127 rfl (by kernel_rfl) (by kernel_rfl) fun hc hw => ?_
  repeat' (first | simp -implicitDefEqProofs only [go_sem] | refine acond_ndec (fun _ => ?_) (fun _ => ?_) | refine ACallK.eq (l1In_ok _ _ _ _ _) ?_ | refine retK_eq ?_)
  · rw [unpackKey, if_neg (by simp_all; omega)]
  · refine acode_while (fun x : Nat × Int × List Int × Nat => [(0, .v (.int .i64 x.2.1)), (4, .sl x.2.2.2 0 x.2.2.1.length)]) (fun x H' => Sub H H' ∧ H.nxt ≤ x.2.2.2 ∧ x.2.2.2 < H'.nxt ∧ H'.blk x.2.2.2 = some ⟨x.2.2.1.map fun y => AV.v (.int .u8 y), 1⟩ ∧ 0 ≤ x.2.1 ∧ x.2.1 ≤ 4294967295 ∧ x.2.1 < 256 ^ x.1 ∧ x.2.2.1.length + x.1 = 4 ∧ bytesF x.1 x.2.1 x.2.2.1 = bytesF 4 n [] ∧ ∀ y ∈ x.2.2.1, 0 ≤ y ∧ y < 256) (fun x => x.1) (4, n, [], H.nxt) ⟨by repeat (first | exact Sub.refl _ | assumption | refine Sub.new (by assumption) ?_ _ _ | refine Sub.kill_new (by assumption) ?_ _ _ | refine Sub.trans ?_ (by assumption)), Nat.le_refl _, Nat.lt_succ_self _, by simp only [go_sem], by show (0 : Int) ≤ n; omega, by show n ≤ 4294967295; omega, by show n < 256 ^ 4; omega, rfl, rfl, by simp⟩ ?_
    rintro ⟨f, m, l, b⟩ H' ⟨hs, hb1, hb2, hblk, h0, h00, h1, hl, hF, hy⟩
    simp only at hb1 hb2 hblk h0 h00 h1 hl hF hy
    have hn := hs.1
    repeat' (first | simp -implicitDefEqProofs only [go_sem] | refine acond_dec (fun _ => ?_) (fun _ => ?_) | simp -implicitDefEqProofs (disch := omega) only [wrap_in, u8_small, Int.tmod_eq_emod_of_nonneg, Int.tdiv_eq_ediv_of_nonneg] | (rw [slInts hblk]) | refine ACallK.eq (KeyOk_spec _ _ _ (by rw [strOfNums_size]; simp only [big]; omega)) ?_ | refine app_rule (blk_new_self _ _ _) (slCells_whole (cs := l.map fun y => AV.v (.int .u8 y)) (by rw [blk_new, if_neg (by omega), hblk]) (by simp)) rfl (by simp [leafA, leafV]) (by simp) (by omega) ?_ | refine acond_split (fun _ => ?_) (fun _ => ?_) | refine retK_back (by assumption) ?_ | fail)
    · cases f with
      | zero => simp at h1; omega
      | succ f =>
        rw [Int.pow_succ] at h1
        refine back (f, m / 256, (m % 256) :: l, H'.nxt + 1) ⟨by repeat (first | exact Sub.refl _ | assumption | refine Sub.new (by assumption) ?_ _ _ | refine Sub.kill_new (by assumption) ?_ _ _ | refine Sub.trans ?_ (by assumption)), by simp only; omega, by simp only; omega, by simp only [if_true]; rfl, by simp only; omega, by simp only; omega, by simp only; omega, by simp only [List.length_cons]; omega, ?_, ?_⟩ (by simp only; omega) (by simp only [frOk, go_sem]; simp [Nat.add_comm])
        · rw [← hF]; simp only [bytesF]; rw [if_pos (by omega)]
        · intro y hy'
          rcases List.mem_cons.1 hy' with rfl | h
          · omega
          · exact hy y h
    all_goals
      have hl2 : l = bytesF 4 n [] := by
        rw [← hF]
        cases f with
        | zero => rfl
        | succ f => simp only [bytesF]; rw [if_neg (by omega)]
      subst hl2
      unfold unpackKey
      simp_all
end Go.Proofs.YtipfnhfcoolhaaaGreat.Aw
end
section
namespace Go.Proofs.YtipfnhfcoolhaaaGreat.Aw
open Go Go.RowKit
set_option maxRecDepth 100000
set_option maxHeartbeats 1000000
theorem rep_take (k : Nat) (l : List AV) (v : AV) : (List.replicate (k + 1) v ++ l).take k = List.replicate k v := by
  rw [List.take_append_of_le_length (by simp), List.take_replicate]; congr 1; omega
theorem rep_drop (k : Nat) (l : List AV) (v : AV) : (List.replicate (k + 1) v ++ l).drop (k + 1) = l := by
  rw [List.drop_append_of_le_length (by simp)]; simp
theorem Fixed_ok (W0 : World) (n : Int) (w : Nat) (H : AH) (hw1 : w = 1 ∨ w = 2 ∨ w = 3 ∨ w = 4) : ACalls Tryz.prog W0 257 [.v (.int .i64 n), .v (.int .i64 w)] H (fun v H' => v = .v (.string (fixedS n w)) ∧ H' = H) := by
  refine acallw Tryz.func257 rfl (by kernel_rfl) (by kernel_rfl) fun hc hw => ?_
  have hshr : ∀ {K : Kt} {H : AH} (t : TypeId), abinop (K := K) Tryz.prog .shr t (.v (.int .i64 n)) (.v (.int .i64 (8 * (w : Int)))) H = K.k (.v (.int .i64 (n / 256 ^ w))) H := by
    intro K H t
    rcases hw1 with rfl | rfl | rfl | rfl <;> simp [abinop, abin, IntKind.bits, Int.fdiv_eq_ediv]
  have hpow : (256 : Int) ^ w ≤ 4294967296 ∧ 0 < (256 : Int) ^ w := by rcases hw1 with rfl | rfl | rfl | rfl <;> simp
  repeat' (first | simp -implicitDefEqProofs only [go_sem] | refine acond_ndec (fun _ => ?_) (fun _ => ?_) | refine agrd_decf (fun _ => ?_) (fun _ => ?_) | refine agrd_ndecf (fun _ => ?_) (fun _ => ?_) | simp -implicitDefEqProofs (disch := omega) only [wrap_in, u8_small, Int.tmod_eq_emod_of_nonneg, Int.tdiv_eq_ediv_of_nonneg] | refine ACallK.eq (within_ok _ _ _ _ _) ?_ | rw [hshr] | refine And.intro (by omega) (And.intro (by omega) ?_) | refine retK_eq ?_)
  · rw [fixedS, if_neg]
    rintro ⟨h0, h⟩
    rw [Int.ediv_eq_zero_of_lt h0 h] at *
    omega
  · refine ⟨by omega, ?_⟩
    have hlt : n < 256 ^ w := by
      have h1 : n / 256 ^ w = 0 := by assumption
      have h2 := Int.lt_ediv_add_one_mul_self n hpow.2
      rw [h1] at h2; omega
    refine acode_while (fun x : Nat × Int × List Int => [(0, .v (.int .i64 x.2.1)), (5, .sl H.nxt 0 w), (6, .v (.int .i64 ((x.1 : Int) - 1)))]) (fun x H' => H' = H.new (List.replicate x.1 (AV.v (.int .u8 0)) ++ x.2.2.map fun y => AV.v (.int .u8 y)) 1 ∧ 0 ≤ x.2.1 ∧ x.2.1 ≤ 4611686018427387904 ∧ x.2.2.length + x.1 = w ∧ fixL w n = fixL x.1 x.2.1 ++ x.2.2) (fun x => x.1) (w, n, []) ⟨by simp [zerosA_one], by show 0 ≤ n; omega, by show n ≤ 4611686018427387904; omega, by simp, by simp⟩ ?_
    rintro ⟨k, m, l⟩ H' ⟨hH, h0, h1, hl, hF⟩
    simp only at hH h0 h1 hl hF
    subst hH
    cases k with
    | zero =>
      have e : (((0 : Nat) : Int) - 1) = -1 := rfl
      repeat' (first | simp -implicitDefEqProofs only [go_sem] | refine acond_dec (fun _ => ?_) (fun _ => ?_) | simp -implicitDefEqProofs (disch := omega) only [wrap_in, u8_small, Int.tmod_eq_emod_of_nonneg, Int.tdiv_eq_ediv_of_nonneg] | simp only [e] | (rw [slInts' (l := l) (by simp only [go_sem]; rfl) (by omega)]) | refine And.intro (by omega) (And.intro (by omega) ?_) | refine retK_back (by assumption) ?_ | fail)
      · exfalso; omega
      · rw [fixedS, if_pos ⟨by omega, hlt⟩, hF]; simp [fixL]
    | succ k =>
      have e : (((k + 1 : Nat) : Int) - 1) = k := by omega
      repeat' (first | simp -implicitDefEqProofs only [go_sem] | refine acond_dec (fun _ => ?_) (fun _ => ?_) | simp -implicitDefEqProofs (disch := omega) only [wrap_in, u8_small, Int.tmod_eq_emod_of_nonneg, Int.tdiv_eq_ediv_of_nonneg] | simp only [e] | (rw [u8_wrap]) | simp -implicitDefEqProofs only [go_sem, slCells_own, aapp_own] | refine And.intro (by omega) (And.intro (by omega) ?_) | fail)
      · refine ⟨by simp, ?_⟩
        refine back (k, m / 256, (m % 256) :: l) ⟨?_, by show 0 ≤ m / 256; omega, by show m / 256 ≤ _; omega, by show l.length + 1 + k = w; omega, by rw [hF]; simp [fixL]⟩ (by show k < k + 1; omega) (by first | (simp only [frOk, go_sem]; done) | (simp only [frOk, go_sem]; simp; done))
        simp only [List.map_cons]
        have e1 := rep_take k (l.map fun y => AV.v (Value.int .u8 y)) (AV.v (.int .u8 0))
        have e2 := rep_drop k (l.map fun y => AV.v (Value.int .u8 y)) (AV.v (.int .u8 0))
        rw [e2]
        first | done | rw [e1]
      · exfalso; omega
  · rw [fixedS, if_neg (by omega)]
  · exfalso; omega
theorem fixedS_size (n : Int) (w : Nat) : (fixedS n w).size ≤ w := by
  unfold fixedS
  split
  · rw [strOfNums_size, fixL_len]; exact Nat.le_refl _
  · exact Nat.zero_le _
theorem UnpackKey_impl (W0 : World) (n : Int) (H : AH) : ACalls Tryz.prog W0 208 [.v (.int .i64 n)] H (fun v H' => v = .tup [.v (.string (unpackKey n).1), .v (.bool (unpackKey n).2)] ∧ H' = H) := by
  refine acallw Tryz.func208 rfl (by kernel_rfl) (by kernel_rfl) fun hc hw => ?_
  repeat' (first | simp -implicitDefEqProofs only [go_sem])
  refine acode_while (fun k : Nat => [(0, .v (.int .i64 n)), (4, .v (.int .i64 k))]) (fun k H' => H' = H ∧ 1 ≤ k ∧ k ≤ 5 ∧ ∀ w : Nat, 1 ≤ w → w < k → ¬ (0 < n ∧ n < 256 ^ w ∧ packKey (strOfNums (fixL w n)) = n)) (fun k => 5 - k) 1 ⟨rfl, by omega, by omega, by omega⟩ ?_
  rintro k _ ⟨rfl, hk1, hk2, hP⟩
  have hz := fixedS_size n k
  repeat' (first | simp -implicitDefEqProofs only [go_sem] | refine acond_dec (fun _ => ?_) (fun _ => ?_) | refine agrd_dec (fun _ => ?_) (fun _ => ?_) | refine agrd_ndec (fun _ => ?_) (fun _ => ?_) | simp -implicitDefEqProofs (disch := omega) only [wrap_in, u8_small, Int.tmod_eq_emod_of_nonneg, Int.tdiv_eq_ediv_of_nonneg] | refine ACallK.eq (Fixed_ok _ _ k _ (by omega)) ?_ | refine ACallK.eq (PackKey_impl _ _ _ (by simp only [big]; omega)) ?_ | refine retK_eq ?_)
  all_goals first
    | (have h1 : ¬ fixedS n k = ⟨#[]⟩ := by assumption
       have h2 : packKey (fixedS n k) = n := by assumption
       have h3 : 0 ≤ n ∧ n < 256 ^ k := by
         by_cases h : 0 ≤ n ∧ n < 256 ^ k
         · exact h
         · exact absurd (by rw [fixedS, if_neg h]) h1
       have h4 : fixedS n k = strOfNums (fixL k n) := by rw [fixedS, if_pos h3]
       rw [h4] at h2 ⊢
       rw [unpack_hit ⟨by omega, by omega⟩ (by assumption) h3.2 h2])
    | (refine back (k + 1) ⟨by omega, by omega, fun w h1 h2 => ?_⟩
       rcases Nat.lt_succ_iff_lt_or_eq.1 h2 with h | rfl
       · exact hP w h1 h
       · rintro ⟨h3, h4, h5⟩
         have h6 : fixedS n w = strOfNums (fixL w n) := by rw [fixedS, if_pos ⟨by omega, h4⟩]
         have h7 : ¬ strOfNums (fixL w n) = ⟨#[]⟩ := by
           intro h
           have := congrArg ByteArray.size h
           rw [strOfNums_size, fixL_len] at this
           have h8 : (⟨#[]⟩ : ByteArray).size = 0 := rfl
           omega
         simp_all)
    | rw [unpack_none fun w h1 h2 => hP w h1 (by omega)]
theorem Tagged_spec (W0 : World) (s : ByteArray) (k : Int) (H : AH) (hs : s.size ≤ big) : ACalls Tryz.prog W0 229 [.v (.string s), .v (.int .i64 k)] H (fun v H' => v = .v (.int .i64 (tagged s k)) ∧ H' = H) := by
  refine acallw Tryz.func229 rfl (by kernel_rfl) (by kernel_rfl) fun hc hw => ?_
  have hp := packKey_bd s
  have he := kindW_empty k
  repeat' (first | simp -implicitDefEqProofs only [go_sem] | refine acond_dec (fun _ => ?_) (fun _ => ?_) | simp -implicitDefEqProofs (disch := omega) only [wrap_in, u8_small, Int.tmod_eq_emod_of_nonneg, Int.tdiv_eq_ediv_of_nonneg] | refine ACallK.eq (KeyOk_spec _ _ _ hs) ?_ | refine ACallK.eq (KindWord_spec _ _ _) ?_ | refine ACallK.eq (PackKey_spec _ _ _ hs) ?_ | refine agrd_bf (fun _ => ?_) (fun _ => ?_) | refine retK_eq ?_)
  all_goals
    refine iv ?_
    unfold tagged
    by_cases hk : 1 ≤ k ∧ k ≤ 3
    · (try rw [Go.IntWalk.i64_in (packKey s * 4) (by omega)])
      (try rw [Go.IntWalk.i64_in (4 * packKey s) (by omega)])
      (try rw [Go.IntWalk.i64_in _ (by omega)])
      simp_all <;> omega
    · simp_all <;> omega
theorem Tagged_impl (W0 : World) (s : ByteArray) (k : Int) (H : AH) (hs : s.size ≤ big) : ACalls Tryz.prog W0 173 [.v (.string s), .v (.int .i64 k)] H (fun v H' => v = .v (.int .i64 (tagged s k)) ∧ H' = H) := by
  refine acallw Tryz.func173 rfl (by kernel_rfl) (by kernel_rfl) fun hc hw => ?_
  have hp := packKey_bd s
  have he := kindW_empty k
  repeat' (first | simp -implicitDefEqProofs only [go_sem] | refine acond_dec (fun _ => ?_) (fun _ => ?_) | simp -implicitDefEqProofs (disch := omega) only [wrap_in, u8_small, Int.tmod_eq_emod_of_nonneg, Int.tdiv_eq_ediv_of_nonneg] | refine ACallK.eq (KeyOk_impl _ _ _ hs) ?_ | refine ACallK.eq (KindWord_impl _ _ _) ?_ | refine ACallK.eq (PackKey_impl _ _ _ hs) ?_ | refine agrd_bf (fun _ => ?_) (fun _ => ?_) | refine retK_eq ?_)
  all_goals
    refine iv ?_
    unfold tagged
    by_cases hk : 1 ≤ k ∧ k ≤ 3
    · (try rw [Go.IntWalk.i64_in (packKey s * 4) (by omega)])
      (try rw [Go.IntWalk.i64_in (4 * packKey s) (by omega)])
      (try rw [Go.IntWalk.i64_in _ (by omega)])
      simp_all <;> omega
    · simp_all <;> omega
theorem untag_kind (n : Int) : 0 ≤ (untag n).2 ∧ (untag n).2 ≤ 3 := by unfold untag; split <;> simp <;> omega
theorem unpackKey_size (n : Int) : (unpackKey n).1.size ≤ 4 := by
  unfold unpackKey
  split
  · rename_i h; exact (keyOk_size h.2.2).2
  · exact Nat.zero_le _
theorem untag_size (n : Int) : (untag n).1.size ≤ 4 := by
  unfold untag
  split
  · exact unpackKey_size _
  · exact Nat.zero_le _
theorem unpackKey_ok {n : Int} (h : (unpackKey n).2 = true) : keyOk (unpackKey n).1 = true ∧ packKey (unpackKey n).1 = n ∧ 1 ≤ n ∧ n ≤ 4294967295 := by
  have e : (unpackKey n).2 = true := h
  unfold unpackKey at e ⊢
  split at e
  · rename_i hc
    rw [if_pos hc]
    refine ⟨hc.2.2, ?_, hc.1, hc.2.1⟩
    have go : ∀ w : Nat, 1 ≤ w → w ≤ 4 → n < 256 ^ w → 256 ^ (w - 1) ≤ n → packKey (strOfNums (bytesF 4 n [])) = n := by
      intro w hw1 hw2 hl hg
      have hb := bytesF_fix w 4 n [] hw2 (by omega) hl (.inr hg)
      rw [List.append_nil] at hb
      have hk := hc.2.2
      rw [hb] at hk ⊢
      exact packKey_fix (by omega) hl hk
    by_cases h2 : n < 256
    · exact go 1 (by omega) (by omega) (by simpa using h2) (by simp; omega)
    by_cases h3 : n < 65536
    · exact go 2 (by omega) (by omega) (by simp; omega) (by simp; omega)
    by_cases h4 : n < 16777216
    · exact go 3 (by omega) (by omega) (by simp; omega) (by simp; omega)
    · exact go 4 (by omega) (by omega) (by simp; omega) (by simp; omega)
  · cases e
theorem Untag_spec (W0 : World) (n : Int) (H : AH) (hn : inI64 n) : ACalls Tryz.prog W0 47 [.v (.int .i64 n)] H (fun v H' => v = .tup [.v (.string (untag n).1), .v (.int .i64 (untag n).2)] ∧ H' = H) := by
  refine acallw Tryz.func47 rfl (by kernel_rfl) (by kernel_rfl) fun hc hw => ?_
  simp only [inI64] at hn
  have he := kindW_empty (n % 4)
  repeat' (first | simp -implicitDefEqProofs only [go_sem] | refine acond_dec (fun _ => ?_) (fun _ => ?_) | refine acond_ndec (fun _ => ?_) (fun _ => ?_) | simp -implicitDefEqProofs (disch := omega) only [wrap_in, u8_small, Int.tmod_eq_emod_of_nonneg, Int.tdiv_eq_ediv_of_nonneg] | refine ACallK.eq (l1In_ok _ _ _ _ _) ?_ | refine ACallK.eq (UnpackKey_spec _ _ _) ?_ | refine ACallK.eq (KindWord_spec _ _ _) ?_ | refine agrd_bf (fun _ => ?_) (fun _ => ?_) | refine retK_eq ?_)
  all_goals
    refine tv ?_
    unfold untag
    by_cases hq : 1 ≤ n % 4
    · have hk : kindW (n % 4) ≠ ⟨#[]⟩ := fun h => he.1 h (by omega)
      cases hu : (unpackKey (n / 4)).2 <;> simp_all <;> (rw [if_neg (by omega)]; simp)
    · have hk : kindW (n % 4) = ⟨#[]⟩ := he.2 (by omega)
      cases hu : (unpackKey (n / 4)).2 <;> simp_all <;> (rw [if_neg (by omega)]; simp)
theorem Untag_impl (W0 : World) (n : Int) (H : AH) (hn : inI64 n) : ACalls Tryz.prog W0 129 [.v (.int .i64 n)] H (fun v H' => v = .tup [.v (.string (untag n).1), .v (.int .i64 (untag n).2)] ∧ H' = H) := by
  refine acallw Tryz.func129 rfl (by kernel_rfl) (by kernel_rfl) fun hc hw => ?_
  simp only [inI64] at hn
  by_cases hn0 : 0 ≤ n
  · repeat' (first | simp -implicitDefEqProofs only [go_sem] | refine acond_ndec (fun _ => ?_) (fun _ => ?_) | simp -implicitDefEqProofs (disch := omega) only [wrap_in, u8_small, Int.tmod_eq_emod_of_nonneg, Int.tdiv_eq_ediv_of_nonneg] | refine ACallK.eq (UnpackKey_impl _ _ _) ?_ | refine ACallK.eq (Tagged_impl _ _ _ _ (Nat.le_trans (unpackKey_size _) (by simp [big]))) ?_ | refine agrd_bf (fun _ => ?_) (fun _ => ?_) | refine retK_eq ?_)
    all_goals
      refine tv ?_
      cases hu : (unpackKey (n / 4)).2 with
      | false => unfold untag; simp_all
      | true =>
        obtain ⟨h1, h2, h3, h4⟩ := unpackKey_ok hu
        by_cases hq : 1 ≤ n % 4
        · have ht : tagged (unpackKey (n / 4)).1 (n % 4) = n := by
            rw [tagged, if_pos ⟨h1, hq, by omega⟩, h2]; omega
          unfold untag; rw [if_pos ⟨by omega, by omega, hu, hq⟩] <;> simp_all
        · have ht : tagged (unpackKey (n / 4)).1 (n % 4) = 0 := by rw [tagged, if_neg (by omega)]
          unfold untag; rw [if_neg (by omega)] <;> simp_all <;> (exfalso; omega)
  · have ht : n.tdiv 4 ≤ 0 ∧ -2305843009213693953 ≤ n.tdiv 4 := by
      obtain ⟨m, rfl⟩ : ∃ m, n = -m := ⟨-n, by omega⟩
      rw [Int.neg_tdiv, Int.tdiv_eq_ediv_of_nonneg (by omega)]; omega
    have hu : unpackKey (n.tdiv 4) = (⟨#[]⟩, false) := by rw [unpackKey, if_neg (by omega)]
    have hw4 : IntKind.i64.wrap (n.tdiv 4) = n.tdiv 4 := Go.IntWalk.i64_in _ (by omega)
    repeat' (first | simp -implicitDefEqProofs only [go_sem] | simp -implicitDefEqProofs (disch := omega) only [wrap_in, u8_small, Int.tmod_eq_emod_of_nonneg, Int.tdiv_eq_ediv_of_nonneg] | rw [hw4] | refine ACallK.eq (UnpackKey_impl _ _ _) ?_ | rw [hu] | refine retK_eq ?_)
    all_goals (rw [untag, if_neg (by omega)])
end Go.Proofs.YtipfnhfcoolhaaaGreat.Aw
end
section
namespace Go.Proofs.YtipfnhfcoolhaaaGreat.Aw
open Go Go.RowKit
set_option maxRecDepth 100000
set_option maxHeartbeats 1000000
end Go.Proofs.YtipfnhfcoolhaaaGreat.Aw
end
