/- The calculus 'Aw' at work, part 11: slices whose capacity is told; slices that do not overlap. -/
import Derived.Test.YthcjolappblieaaOa
namespace Go.Proofs.Ythcjolappblieaa.Aw
open Go Go.RowKit
set_option linter.unusedVariables false
set_option linter.unusedSimpArgs false
set_option linter.unusedSectionVars false
variable {P : Program} {W0 : World}
/-- Two slices of two blocks of ours do not overlap. -/
theorem over_ext {f : FuncId} {fn : Func} (hf : P.funcs[f]? = some fn) (hname : (fn.name == "runtime.NumGoroutine") = false) (hb : fn.body.isNone = true) (hn : Extern.findNext fn = none) (he : Extern.find fn = some (Extern.SlicesOverlaps.overlaps fn.params fn.resultTypes)) {t el : TypeId} (ht : fn.params[0]? = some t) (hel : elt P t = some el) {i : TyI} (hi : tyi P el = some i)
    {a1 a2 : AV} {H : AH} {b o n b' o' n' : Nat} {B B' : Blk} (h1 : slBlk a1 = some (b, o, n)) (h2 : slBlk a2 = some (b', o', n')) (hne : b ≠ b') (hB : H.blk b = some B) (hB' : H.blk b' = some B') : AExt P W0 f [a1, a2] H (fun v H' => v = .v (.bool false) ∧ H' = H) := by
  intro φ W ys hI hv
  cases hv with
  | cons v1 hv =>
    cases hv with
    | cons v2 hv =>
      cases hv
      have v1 := slBlk_ok v1 h1
      have v2 := slBlk_ok v2 h2
      obtain ⟨d, j, z, hd, hj, hz, rfl⟩ := tyi_run hi
      obtain ⟨p, hp, g1, g2, g3, C, et, hC, g4, g5⟩ := hI.blks b B hB
      obtain ⟨p', hp', g1', g2', g3', C', et', hC', g4', g5'⟩ := hI.blks b' B' hB'
      have hg : p.g ≠ p'.g := fun h => hne (hI.inj b b' p p' (by rw [hB]; rfl) (by rw [hB']; rfl) hp hp' h)
      have hbn : ¬ fn.body = none → False := fun h => by cases hbb : fn.body <;> simp_all
      have hnm : ¬ fn.name = "runtime.NumGoroutine" := by simpa using hname
      have hcall : ∀ xs : Array Value, (callFunc f xs).run P W = ((Extern.SlicesOverlaps.overlaps fn.params fn.resultTypes xs).run P W).andThen fun v w => .ok (.value v) w := by
        intro xs
        have hbn2 : fn.body = none := by cases hbb : fn.body <;> simp_all
        simp [callFunc, hf, hnm, hbn2, hn, he]
      cases v1 with
      | sl q1 q2 q3 =>
        rename_i c ad p1
        rw [hp] at q1; cases q1
        cases v2 with
        | sl r1 r2 r3 =>
          rename_i c' ad' p2
          rw [hp'] at r1; cases r1
          refine ⟨.bool false, W, ?_, _, H, φ, .v _, hI, Ext.refl _, rfl, rfl⟩
          rw [hcall]
          have hrun : (Extern.SlicesOverlaps.overlaps fn.params fn.resultTypes #[.slice (some ad) n c, .slice (some ad') n' c']).run P W = .ok (.bool false) W := by
            conv => lhs; arg 2; whnf
            by_cases hz : n = 0 ∨ n' = 0 ∨ j.size = 0
            · simp [ht, run_underlying (elt_run hel), sizeOf_run hj, hz]
            · have hn0 : ¬ n = 0 := fun h => hz (.inl h)
              have hn0' : ¬ n' = 0 := fun h => hz (.inr (.inl h))
              have hs0 : ¬ j.size = 0 := fun h => hz (.inr (.inr h))
              obtain ⟨rfl, -⟩ := q3.resolve_left (by omega)
              obtain ⟨rfl, -⟩ := r3.resolve_left (by omega)
              simp [ht, run_underlying (elt_run hel), sizeOf_run hj, hn0, hn0', hs0, hg, World.frozen?, hC, hC', noView, viewAt, World.shape?, mayBeOne, stringish]
          rw [hrun]
          rfl
theorem refl_set {H : AH} {b : Nat} {B : Blk} (h : H.blk b = some B) : H.set b B = H := by
  cases H
  simp only [AH.set, AH.mk.injEq, and_true]
  funext x
  split
  · subst_vars; exact h.symm
  · rfl
/-- A slice that is handed over: its capacity may be told, and the block's cells up to there. -/
theorem acalls_cap {f : FuncId} {rest : List AV} {H : AH} {b o n s : Nat} {cs : List AV} {R : AV → AH → Prop} (hc : callable P f = true) (hB : H.blk b = some ⟨cs, s⟩) (ho : o + n * s ≤ cs.length)
    (h : ∀ c k, n ≤ c → o + c * s ≤ cs.length + k → ACalls P W0 f (.slc b o n c :: rest) (H.set b ⟨cs ++ List.replicate k .dead, s⟩) R) : ACalls P W0 f (.sl b o n :: rest) H R := by
  refine ⟨hc, fun φ W ys hI hv => ?_⟩
  cases hv with
  | cons v1 hv =>
    obtain ⟨p, hp, g1, g2, g3, C, et, hC, g4, g5⟩ := hI.blks b _ hB
    cases v1 with
    | sl q1 q2 q3 =>
      rename_i c ad p1
      rw [hp] at q1; cases q1
      simp only at g2 g3
      rcases q3 with rfl | ⟨rfl, q3⟩
      · have hn : n = 0 := by omega
        subst hn
        have h0 := h 0 0 (Nat.le_refl _) (by omega)
        simp only [List.replicate_zero, List.append_nil] at h0
        rw [refl_set hB] at h0
        exact h0.2 φ W _ hI (.cons (.slc hp (Nat.le_refl _) (.inl rfl)) hv)
      · rw [← g2] at q3
        have h0 := h c (p.lim - cs.length) q2 (by omega)
        exact h0.2 φ W _ (hI.dead hB hp _ (by simp only; omega)) (.cons (.slc hp q2 (.inr ⟨rfl, by rw [← g2]; exact q3⟩)) hv)
/-- A value that says less. -/
def Wk (v v' : AV) : Prop := ∀ φ y, VR φ v y → VR φ v' y
theorem Wk.refl (v : AV) : Wk v v := fun _ _ h => h
theorem Wk.slc (b o n c : Nat) : Wk (.slc b o n c) (.sl b o n) := fun _ _ h => h.weak
theorem ACalls.wk {f : FuncId} {args : List AV} {H : AH} {R R' : AV → AH → Prop} (h : ACalls P W0 f args H R) (k : ∀ v H', R v H' → ∃ v', Wk v v' ∧ R' v' H') : ACalls P W0 f args H R' :=
  ⟨h.1, fun φ W ys hI hv => (h.2 φ W ys hI hv).mono fun e W' ⟨y, v, H', φ', h1, h2, h3, h4, h5⟩ => by
    obtain ⟨v', k1, k2⟩ := k v H' h5
    exact ⟨y, v', H', φ', h1, k1 _ _ h2, h3, h4, k2⟩⟩
/-! ### Parts of slices -/
def aslE (W0 : World) (i : Option TyI) (x : AV) (lo hi : Option AV) (H : AH) [K : Kt] : Prop := match i with
  | some i => aslc W0 H i.size x lo hi
  | none => False
section
variable {α : Type} [Ob α]
theorem asl_sl {K : Kt} {H H0 : AH} {t : TypeId} {v : AV} {xs : List α} {lo hi : Option AV} (hv : SlR W0 H0 v xs) (k : aslE (K := K) W0 ((elt P t).bind (tyi P)) v lo hi H) : asl (K := K) P W0 t v lo hi H := by
  have h1 := hv.1
  cases v with
  | v x =>
    cases x with
    | string s => cases h1
    | _ => exact k
  | _ => exact k
/-- The part of a slice from the l-th to the h-th element. -/
def slA (s : Nat) : AV → Nat → Nat → AV
  | .sl b o n, l, h => .sl b (o + l * s) (h - l)
  | .sl0, _, _ => .sl0
  | .v (.slice a n c), l, h => .v (.slice (if c = l then a else a.map (·.add (l * s))) (h - l) (c - l))
  | _, _, _ => .dead
theorem aslE_sl {K : Kt} {H H0 : AH} {v : AV} {xs : List α} {lo hi : Option AV} {l h : Int} {g : Bool} {s b : Nat} {z : List Value} (hv : SlR W0 H0 v xs) (k : SlR W0 H0 (slA s v l.toNat h.toNat) ((xs.drop l.toNat).take (h.toNat - l.toNat)) → K.k (slA s v l.toNat h.toNat) H)
    (hl : boundA 0 lo = some l := by rfl) (hh : boundA xs.length hi = some h := by rfl) (h0 : 0 ≤ l := by omega) (h1 : l ≤ h := by omega) (h2 : h ≤ xs.length := by omega)
    (hs : Sub H0 H := by repeat (first | exact Sub.refl _ | assumption | refine Sub.new (by assumption) ?_ _ _ | refine Sub.kill_new (by assumption) ?_ _ _ | refine Sub.trans ?_ (by assumption))) (hz : s = Ob.n α := by rfl) : aslE (K := K) W0 (some ⟨g, s, b, z⟩) v lo hi H := by
  subst hz
  obtain ⟨e1, e2, cs, e3, e4⟩ := hv
  have hlen : ((xs.drop l.toNat).take (h.toNat - l.toNat)).length = h.toNat - l.toNat := by simp; omega
  have hb2 : ((xs.drop l.toNat).take (h.toNat - l.toNat)).length ≤ big := by rw [hlen]; omega
  have hrep := (e4.drop l.toNat).take (h.toNat - l.toNat)
  have hcl := e4.len
  have hle : h.toNat * Ob.n α ≤ xs.length * Ob.n α := Nat.mul_le_mul_right _ (by omega)
  have hsub : (h.toNat - l.toNat) * Ob.n α = h.toNat * Ob.n α - l.toNat * Ob.n α := Nat.sub_mul ..
  have hlh : l.toNat * Ob.n α ≤ h.toNat * Ob.n α := Nat.mul_le_mul_right _ (by omega)
  cases v with
  | sl b' o n =>
    simp only [slN, Option.some.injEq] at e1
    subst e1
    simp only [slCells, Nat.le_refl, if_true] at e3
    obtain ⟨B, hB, e3⟩ := Option.bind_eq_some_iff.1 e3
    split at e3
    · rename_i hB2
      simp only [Option.some.injEq] at e3
      simp only [aslE, aslc, aslice, hs.2 _ _ hB, hl, hh]
      simp only [slA] at k
      refine ⟨hB2.1, h0, h1, h2, k ⟨by simp only [slN, hlen], hb2, _, ?_, hrep⟩⟩
      simp only [slCells, hlen, Nat.le_refl, if_true, hB, Option.bind_some, hB2.1, true_and]
      rw [if_pos (by omega), ← e3]
      congr 1
      rw [List.drop_take, List.take_take, List.drop_drop]
      congr 1
      omega
    · cases e3
  | v x =>
    cases x with
    | slice a n c =>
      simp only [slN, Option.some.injEq] at e1
      subst e1
      cases a with
      | none =>
        simp only [slCells] at e3
        split at e3
        · rename_i hz
          simp only [aslE, aslc, aslice, hl, hh]
          refine ⟨h0, h1, h2, by omega, ?_⟩
          have hx : xs = [] := List.eq_nil_of_length_eq_zero hz
          subst hx
          simp only [slA, Option.map_none, ite_self] at k ⊢
          refine k ⟨by simp only [slN, hlen], hb2, [], ?_, by simp; exact .nil⟩
          simp [slCells]
        · cases e3
      | some a =>
        simp only [slCells] at e3
        split at e3
        · rename_i hnc
          simp only [Option.map_eq_some_iff] at e3
          obtain ⟨us, hu, rfl⟩ := e3
          simp only [aslE, aslc, aslice, hl, hh]
          refine ⟨h0, h1, h2, hnc.2, ?_⟩
          have hul : us.length = xs.length * Ob.n α := (rdOld_iff.1 hu).1
          by_cases hc : c = l.toNat
          · rw [if_pos hc]
            have h0' : h.toNat - l.toNat = 0 := by omega
            simp only [slA, if_pos hc] at k
            refine k ⟨by simp only [slN, hlen], hb2, [], ?_, by rw [h0']; simp; exact .nil⟩
            simp [slCells, hlen, h0', rdOld]
          · rw [if_neg hc]
            simp only [slA, if_neg hc] at k
            refine k ⟨by simp only [slN, hlen], hb2, _, ?_, hrep⟩
            simp only [Option.map_some, slCells, hlen, Nat.le_refl, true_and]
            rw [if_pos (by omega), Option.map_eq_some_iff]
            refine ⟨(us.drop (l.toNat * Ob.n α)).take ((h.toNat - l.toNat) * Ob.n α), ?_, by rw [List.map_take, List.map_drop]⟩
            rw [rdOld_iff] at hu ⊢
            refine ⟨by simp; omega, fun i hi => ?_⟩
            have h2 := hu.2 (l.toNat * Ob.n α + i) (by omega)
            rw [List.getElem?_take, if_pos hi, List.getElem?_drop, ← h2, Addr.add_add]
        · cases e3
    | _ => cases e1
  | _ => cases e1
end
/-! ### Slices whose capacity is told: rules -/
theorem asl_slc {K : Kt} {H : AH} (t : TypeId) (b o n c : Nat) (lo hi : Option AV) : asl (K := K) P W0 t (.slc b o n c) lo hi H = aslE (K := K) W0 ((elt P t).bind (tyi P)) (.slc b o n c) lo hi H := rfl
theorem asl_own {K : Kt} {H : AH} (t : TypeId) (b o n : Nat) (lo hi : Option AV) : asl (K := K) P W0 t (.sl b o n) lo hi H = aslE (K := K) W0 ((elt P t).bind (tyi P)) (.sl b o n) lo hi H := rfl
theorem asl_nil {K : Kt} {H : AH} (t : TypeId) (a : Option Addr) (n c : Nat) (lo hi : Option AV) : asl (K := K) P W0 t (.v (.slice a n c)) lo hi H = aslE (K := K) W0 ((elt P t).bind (tyi P)) (.v (.slice a n c)) lo hi H := rfl
theorem boundA_none (d : Nat) : boundA d none = some (d : Int) := rfl
theorem boundA_int (d : Nat) (k : IntKind) (i : Int) : boundA d (some (.v (.int k i))) = some i := rfl
def aslB (B : Option Blk) (s b o c : Nat) (l h : Option Int) (H : AH) [K : Kt] : Prop := match B, l, h with
  | some B, some l, some h => B.esz = s ∧ 0 ≤ l ∧ l ≤ h ∧ h ≤ c ∧ K.k (.slc b (o + l.toNat * s) (h.toNat - l.toNat) (c - l.toNat)) H
  | _, _, _ => False
theorem aslE_slc {K : Kt} {H : AH} (g : Bool) (s b' : Nat) (z : List Value) (b o n c : Nat) (lo hi : Option AV) : aslE (K := K) W0 (some ⟨g, s, b', z⟩) (.slc b o n c) lo hi H = aslB (K := K) (H.blk b) s b o c (boundA 0 lo) (boundA n hi) H := by
  simp only [aslE, aslc, aslice, aslB]
  cases H.blk b with
  | none => rfl
  | some B => cases boundA 0 lo <;> cases boundA n hi <;> rfl
theorem aslB_some {K : Kt} {H : AH} (cs : List AV) (s' s b o c : Nat) (l h : Int) : aslB (K := K) (some ⟨cs, s'⟩) s b o c (some l) (some h) H = (s' = s ∧ 0 ≤ l ∧ l ≤ h ∧ h ≤ c ∧ K.k (.slc b (o + l.toNat * s) (h.toNat - l.toNat) (c - l.toNat)) H) := rfl
def aslA (B : Option Blk) (s b o n : Nat) (l h : Option Int) (H : AH) [K : Kt] : Prop := match B, l, h with
  | some B, some l, some h => B.esz = s ∧ 0 ≤ l ∧ l ≤ h ∧ h ≤ n ∧ K.k (.sl b (o + l.toNat * s) (h.toNat - l.toNat)) H
  | _, _, _ => False
theorem aslE_own {K : Kt} {H : AH} (g : Bool) (s b' : Nat) (z : List Value) (b o n : Nat) (lo hi : Option AV) : aslE (K := K) W0 (some ⟨g, s, b', z⟩) (.sl b o n) lo hi H = aslA (K := K) (H.blk b) s b o n (boundA 0 lo) (boundA n hi) H := by
  simp only [aslE, aslc, aslice, aslA]
  cases H.blk b with
  | none => rfl
  | some B => cases boundA 0 lo <;> cases boundA n hi <;> rfl
theorem aslA_some {K : Kt} {H : AH} (cs : List AV) (s' s b o n : Nat) (l h : Int) : aslA (K := K) (some ⟨cs, s'⟩) s b o n (some l) (some h) H = (s' = s ∧ 0 ≤ l ∧ l ≤ h ∧ h ≤ n ∧ K.k (.sl b (o + l.toNat * s) (h.toNat - l.toNat)) H) := rfl
theorem copy_rule {K : Kt} {H : AH} {g : Bool} {s by' : Nat} {z : List Value} {b o n m : Nat} {src : AV} {cs new : List AV} (hB : H.blk b = some ⟨cs, s⟩) (hn : slCells W0 H s (min m n) src = some new) (hl : new.all leafA = true) (h1 : o + n * s ≤ cs.length)
    (k : K.k (.v (.int .i64 (min m n : Nat))) (H.set b ⟨wr cs o new, s⟩)) : acopy (K := K) (some ⟨g, s, by', z⟩) (some (b, o, n)) (some m) src W0 H := by
  simp only [acopy, hB, hn]
  exact ⟨trivial, h1, hl, k⟩
theorem app_slc {K : Kt} {H : AH} {g : Bool} {s by' : Nat} {z : List Value} {b o n c m : Nat} {src : AV} {cs new : List AV} (hB : H.blk b = some ⟨cs, s⟩) (hn : slCells W0 H s m src = some new) (hm : lenA src = some m) (hl : new.all leafA = true) (h1 : o + c * s ≤ cs.length) (h2 : n ≤ c) (h3 : (n + m) * by' ≤ 140737488355328)
    (k1 : n + m ≤ c → K.k (.slc b o (n + m) c) (H.set b ⟨wr cs (o + n * s) new, s⟩)) (k2 : c < n + m → K.k (.sl H.nxt 0 (n + m)) (H.new ((cs.drop o).take (n * s) ++ new) s)) (g1 : 0 < s := by decide) (g2 : 0 < by' := by decide) (g3 : z.length = s := by rfl) :
    aapp (K := K) P W0 H (some ⟨g, s, by', z⟩) (.slc b o n c) src := by
  simp only [aapp, hm, hn, hB]
  refine ⟨g1, g2, g3, hl, trivial, h1, h2, h3, ?_⟩
  by_cases h : n + m ≤ c
  · rw [if_pos h]; exact k1 h
  · rw [if_neg h]; exact k2 (by omega)
theorem appz_slc {K : AV → AH → Prop} {H : AH} {e : TypeId} {i : TyI} (hi : tyi P e = some i) {b o n c m : Nat} {cs : List AV} (hB : H.blk b = some ⟨cs, i.size⟩) (h1 : o + c * i.size ≤ cs.length) (h2 : n ≤ c) (h3 : (n + m) * i.bytes ≤ 140737488355328) (h4 : c < n + m)
    (k : K (.sl H.nxt 0 (n + m)) (H.new ((cs.drop o).take (n * i.size) ++ zerosA i.zero m) i.size)) (g1 : 0 < i.size) (g2 : 0 < i.bytes) (g3 : i.zero.length = i.size) : aappendz P W0 H e (.slc b o n c) m K := by
  simp only [aappendz, hi, hB]
  exact ⟨g1, g2, g3, trivial, h1, h2, h3, h4, k⟩
theorem app_nil {K : Kt} {H : AH} {g : Bool} {s by' : Nat} {z : List Value} {a : Option Addr} {m : Nat} {src : AV} {new : List AV} (hn : slCells W0 H s m src = some new) (hm : lenA src = some m) (hl : new.all leafA = true) (h3 : m * by' ≤ 140737488355328)
    (k1 : m = 0 → K.k (.v (.slice a 0 0)) H) (k2 : m ≠ 0 → K.k (.sl H.nxt 0 m) (H.new new s)) (g1 : 0 < s := by decide) (g2 : 0 < by' := by decide) (g3 : z.length = s := by rfl) :
    aapp (K := K) P W0 H (some ⟨g, s, by', z⟩) (.v (.slice a 0 0)) src := by
  simp only [aapp, hm, hn]
  refine ⟨g1, g2, g3, hl, h3, ?_⟩
  by_cases h : m = 0
  · rw [if_pos h]; exact k1 h
  · rw [if_neg h]; exact k2 h
theorem app_sl0 {K : Kt} {H : AH} {g : Bool} {s by' : Nat} {z : List Value} {m : Nat} {src : AV} {new : List AV} (hn : slCells W0 H s m src = some new) (hm : lenA src = some m) (hl : new.all leafA = true) (h3 : m * by' ≤ 140737488355328)
    (k1 : m = 0 → K.k .sl0 H) (k2 : m ≠ 0 → K.k (.sl H.nxt 0 m) (H.new new s)) (g1 : 0 < s := by decide) (g2 : 0 < by' := by decide) (g3 : z.length = s := by rfl) :
    aapp (K := K) P W0 H (some ⟨g, s, by', z⟩) .sl0 src := by
  simp only [aapp, hm, hn]
  refine ⟨g1, g2, g3, hl, h3, ?_⟩
  by_cases h : m = 0
  · rw [if_pos h]; exact k1 h
  · rw [if_neg h]; exact k2 h
theorem asl_sl0 {K : Kt} {H : AH} (t : TypeId) (lo hi : Option AV) : asl (K := K) P W0 t .sl0 lo hi H = aslE (K := K) W0 ((elt P t).bind (tyi P)) .sl0 lo hi H := rfl
def aslZ (l h : Option Int) (H : AH) [K : Kt] : Prop := match l, h with
  | some l, some h => l = 0 ∧ h = 0 ∧ K.k .sl0 H
  | _, _ => False
theorem aslE_sl0 {K : Kt} {H : AH} (g : Bool) (s b' : Nat) (z : List Value) (lo hi : Option AV) : aslE (K := K) W0 (some ⟨g, s, b', z⟩) .sl0 lo hi H = aslZ (K := K) (boundA 0 lo) (boundA 0 hi) H := by
  simp only [aslE, aslc, aslice, aslZ]
  cases boundA 0 lo <;> cases boundA 0 hi <;> rfl
theorem aslZ_some {K : Kt} {H : AH} (l h : Int) : aslZ (K := K) (some l) (some h) H = (l = 0 ∧ h = 0 ∧ K.k .sl0 H) := rfl
theorem abi_len_sl0 {K : Kt} {H : AH} (t : TypeId) : abi (K := K) P W0 .len [t] [.sl0] H = ((elt P t).isSome = true ∧ K.k (.v (.int .i64 0)) H) := rfl
attribute [go_sem] asl_sl0 aslE_sl0 aslZ_some abi_len_sl0
attribute [go_sem] asl_slc asl_own asl_nil boundA_none boundA_int aslE_slc aslB_some aslE_own aslA_some abi_copy
theorem aslE_def (g : Bool) (s b : Nat) (z : List Value) (x : AV) (lo hi : Option AV) {H : AH} {K : Kt} : aslE (K := K) W0 (some ⟨g, s, b, z⟩) x lo hi H = aslc (K := K) W0 H s x lo hi := rfl
end Go.Proofs.Ythcjolappblieaa.Aw
