/- The calculus 'Aw' at work, part 8: '==' of structs whose fields are plain. -/
import Derived.Test.YthcjolappblieaaAy1
import Derived.Laws.StructEq
import Derived.ChangeKeysEq
namespace Go.Proofs.Ythcjolappblieaa.Aw
open Go Go.RowKit
set_option linter.unusedVariables false
def eqFs (P : Program) (xs ys : List Value) : List Field → Option Bool
  | [] => some true
  | f :: fs => if f.name = "_" then none else
    match P.underlying f.type, xs[f.offset]?, ys[f.offset]? with
    | some (.int _), some (.int k a), some (.int k' b) => if k = k' then (eqFs P xs ys fs).map fun r => (a == b) && r else none
    | some .bool, some (.bool a), some (.bool b) => (eqFs P xs ys fs).map fun r => (a == b) && r
    | some .string, some (.string a), some (.string b) => (eqFs P xs ys fs).map fun r => (a.toList == b.toList) && r
    | _, _, _ => none
theorem eqFs_run {P : Program} {xs ys : List Value} (d : Nat) (W : World) : ∀ (fs : List Field) (r : Bool), eqFs P xs ys fs = some r → (Op.eqFields (d + 1) xs.toArray ys.toArray fs).run P W = .ok r W
  | [], r, h => by simp only [eqFs, Option.some.injEq] at h; subst h; rfl
  | f :: fs, r, h => by
    simp only [eqFs] at h
    split at h
    · cases h
    rename_i hn
    rw [Op.eqFields, if_pos hn]
    have go : ∀ (a b : Value) (q : Bool), P.plainKey f.type = true → xs[f.offset]? = some a → ys[f.offset]? = some b → (Op.equalIn (d + 1) f.type a b).run P W = .ok q W → (eqFs P xs ys fs).map (fun r => q && r) = some r →
        (do let a ← part f.type xs.toArray f.offset; let b ← part f.type ys.toArray f.offset; let r ← Op.equalIn (d + 1) f.type a b; if (!r) = true then pure false else Op.eqFields (d + 1) xs.toArray ys.toArray fs : Sem Bool).run P W = .ok r W := by
      intro a b q hp ha hb hq hr
      obtain ⟨s, hs, rfl⟩ := Option.map_eq_some_iff.1 hr
      have ih := eqFs_run d W fs s hs
      simp only [Sem.run_bind, run_part_plain W hp (show xs.toArray[f.offset]? = some a by simpa using ha), run_part_plain W hp (show ys.toArray[f.offset]? = some b by simpa using hb), Result.andThen_ok, hq]
      cases q
      · simp
      · simpa using ih
    split at h
    · rename_i k0 k a k' b hu ha hb
      split at h
      · rename_i hk
        subst hk
        exact go _ _ _ (by simp [Program.plainKey, hu]) ha hb (run_equalIn_int W d _ _ _ _ _ hu) h
      · cases h
    · rename_i a b hu ha hb
      exact go _ _ _ (by simp [Program.plainKey, hu]) ha hb (run_equalIn_bool' W d _ _ _ hu) h
    · rename_i a b hu ha hb
      exact go _ _ _ (by simp [Program.plainKey, hu]) ha hb (run_equalIn_string W d _ _ _ hu) h
    · cases h
def fieldsL (P : Program) (t : TypeId) : List Field := match P.underlying t with | some (.struct fs) => fs.toList | _ => []
def eqTyOk (P : Program) (t : TypeId) : Bool := (match P.underlying t with | some (.struct _) => true | _ => false) && !P.stoodInHeld t && !P.eqGuardType P.depth t
theorem eqAt_of {P : Program} {t : TypeId} {xs ys : List Value} {r : Bool} (ht : eqTyOk P t = true) (h : eqFs P xs ys (fieldsL P t) = some r) : EqAt P t xs ys r := by
  simp only [eqTyOk, Bool.and_eq_true, Bool.not_eq_true'] at ht
  obtain ⟨⟨h1, h2⟩, h3⟩ := ht
  have hf : P.underlying t = some (.struct (P.fieldsOf t)) := by
    unfold Program.fieldsOf
    split at h1
    · rename_i fs hu; rw [hu]
    · cases h1
  have hl : fieldsL P t = (P.fieldsOf t).toList := by
    unfold fieldsL Program.fieldsOf
    split at h1
    · rename_i fs hu; rw [hu]
    · cases h1
  refine ⟨fun W => ?_, fun W => ?_⟩
  · simp [eqGuard, h3]
  · unfold Op.equal Op.maxDepth
    rw [run_equalIn_struct W 9999 t _ _ hf h2, ← hl]
    exact eqFs_run 9998 W _ _ h
theorem agg_eq {K : Kt} {P : Program} {t : TypeId} {H : AH} {xs ys : List Value} {r : Bool} {l l' : List AV} (h : EqAt P t xs ys r) (hk : K.k (.v (.bool r)) H) (h1 : l = xs.map .v := by rfl) (h2 : l' = ys.map .v := by rfl) : abinop (K := K) P .eql t (.agg l) (.agg l') H := ⟨xs, ys, r, h1, h2, h, hk⟩
theorem agg_ne {K : Kt} {P : Program} {t : TypeId} {H : AH} {xs ys : List Value} {r : Bool} {l l' : List AV} (h : EqAt P t xs ys r) (hk : K.k (.v (.bool !r)) H) (h1 : l = xs.map .v := by rfl) (h2 : l' = ys.map .v := by rfl) : abinop (K := K) P .neq t (.agg l) (.agg l') H := ⟨xs, ys, r, h1, h2, h, hk⟩
end Go.Proofs.Ythcjolappblieaa.Aw
