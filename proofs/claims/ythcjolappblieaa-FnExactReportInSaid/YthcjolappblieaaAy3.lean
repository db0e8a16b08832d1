/- The calculus 'Aw' at work, part 9: tools for the laws themselves. -/
import Derived.Test.YthcjolappblieaaAy2
import Derived.Test.YthcjolappblieaaDa
namespace Go.Proofs.Ythcjolappblieaa.Aw
open Go Go.RowKit
set_option linter.unusedVariables false
set_option linter.unusedSectionVars false
variable {P : Program} {W0 : World}
theorem ACallK.szk {K : Kt} {g : FuncId} {xs : List AV} {H : AH} {left : Int} {n : Nat} (h : ACalls P W0 g xs H (fun v H' => v = .v (.int .i64 (szLeft left n)) ∧ H' = H)) (h1 : left < n → K.k (.v (.int .i64 (-1))) H) (h2 : (n : Int) ≤ left → K.k (.v (.int .i64 (left - n))) H) : ACallK (K := K) P W0 g xs H := by
  refine ACallK.eq h ?_
  unfold szLeft
  split
  · exact h2 (by assumption)
  · exact h1 (by omega)
theorem obsz_int (xs : List Int) : Ob.sz xs = xs.length := by
  show xs.length + (xs.map Ob.sz).sum = xs.length
  have : ∀ l : List Int, (l.map Ob.sz).sum = 0 := fun l => by induction l <;> simp_all [Ob.sz]
  rw [this]; rfl
theorem acond_decF {p : Prop} {d : Decidable p} {K : K2} (h : ¬ p) (hb : K.b) : acond (K := K) (.v (.bool (@decide p d))) := acond_dec (fun k => absurd k h) fun _ => hb
theorem acond_decT {p : Prop} {d : Decidable p} {K : K2} (h : p) (ha : K.a) : acond (K := K) (.v (.bool (@decide p d))) := acond_dec (fun _ => ha) fun k => absurd h k
theorem acond_ndecF {p : Prop} {d : Decidable p} {K : K2} (h : ¬ p) (ha : K.a) : acond (K := K) (.v (.bool (!(@decide p d)))) := acond_ndec (fun _ => ha) fun k => absurd k h
theorem acond_ndecT {p : Prop} {d : Decidable p} {K : K2} (h : p) (hb : K.b) : acond (K := K) (.v (.bool (!(@decide p d)))) := acond_ndec (fun k => absurd h k) fun _ => hb
theorem Ob.sub' {α : Type} [Ob α] {H H' : AH} {cs : List AV} {x : α} (h : Ob.rep W0 H cs x) (hs : Sub H H' := by repeat (first | exact Sub.refl _ | assumption | refine Sub.new (by assumption) ?_ _ _ | refine Sub.kill_new (by assumption) ?_ _ _ | refine Sub.trans ?_ (by assumption))) : Ob.rep W0 H' cs x := Ob.sub hs h
theorem SlR.sub' {α : Type} [Ob α] {H H' : AH} {v : AV} {x : List α} (h : SlR W0 H v x) (hs : Sub H H' := by repeat (first | exact Sub.refl _ | assumption | refine Sub.new (by assumption) ?_ _ _ | refine Sub.kill_new (by assumption) ?_ _ _ | refine Sub.trans ?_ (by assumption))) : SlR W0 H' v x := h.sub hs
theorem ACalls.cl {g : FuncId} {xs : List AV} {H : AH} {R : AV → AH → Prop} (h : ACalls P W0 g xs H R) : ACalls P W0 g xs H (fun v H' => R v H' ∧ H'.closed) :=
  ⟨h.1, fun φ W ys hI hv => (h.2 φ W ys hI hv).mono fun e W' ⟨y, v, H', φ', h1, h2, h3, h4, h5⟩ => ⟨y, v, H', φ', h1, h2, h3, h4, h5, h3.closed⟩⟩
/-- What a copying helper of the laws hands back, told without its freshness. -/
theorem toK {α : Type} [Ob α] {K : Kt} {g : FuncId} {xs : List AV} {H : AH} {x : α} (h : ACalls P W0 g xs H (fun v H' => Sub H H' ∧ ∃ c, v = .agg c ∧ Ob.rep W0 (H'.above H.nxt) c x)) (k : ∀ H' c, Sub H H' → H'.wf → Ob.rep W0 H' c x → K.k (.agg c) H') : ACallK (K := K) P W0 g xs H :=
  ACallK.of h.cl (by rintro _ H' ⟨⟨hs, c, rfl, hr⟩, hc⟩; exact k H' c hs hc.1 (Ob.fresh hr))
theorem toSK {α : Type} [Ob α] {K : Kt} {g : FuncId} {ys : List AV} {H : AH} {x : List α} (h : ACalls P W0 g ys H (fun v H' => Sub H H' ∧ SlR W0 (H'.above H.nxt) v x)) (k : ∀ H' v, Sub H H' → H'.wf → SlR W0 H' v x → K.k v H') : ACallK (K := K) P W0 g ys H :=
  ACallK.of h.cl (by rintro v H' ⟨⟨hs, hr⟩, hc⟩; exact k H' v hs hc.1 (hr.sub (above_all _ _)))
end Go.Proofs.Ythcjolappblieaa.Aw
