/- The calculus 'Aw' at work, part 6: what the law is given lies in memory as data. -/
import Derived.Test.YthcjolappblieaaAx5
import GoSem.ClaimChange
namespace Go.Proofs.Ythcjolappblieaa.Aw
open Go Go.RowKit
set_option linter.unusedVariables false
set_option linter.unusedSimpArgs false
set_option linter.unusedSectionVars false
variable {P : Program}
/-- What is read of a value of the type t is the data of α. -/
def Opens (P : Program) (α : Type) [Ob α] (t : TypeId) : Prop := ∀ {D : Type} (enc : TypeId × Value → D) (W : World) (spare : Nat → Bool) (held : Bool) (fuel : Nat) (cs : List Value) (r : DataW D × List MemPlace),
  DataW.trod enc P W 0 spare held fuel t cs = some r → ∃ x : α, ∀ H : AH, Ob.rep W H (cs.map .v) x
theorem opens_int {t : TypeId} (hu : P.underlying t = some (.int .i64)) : Opens P Int t := by
  intro D enc W spare held fuel cs r h
  cases fuel with
  | zero => cases h
  | succ fuel =>
    rcases cs with _ | ⟨v, _ | ⟨w, tl⟩⟩
    · simp [DataW.trod, hu] at h
    · cases v <;> simp [DataW.trod, hu] at h
      obtain ⟨⟨rfl, hw⟩, _⟩ := h
      refine ⟨_, fun H => ⟨rfl, ?_⟩⟩
      simp [Lit.wf, IntKind.min, IntKind.max, IntKind.bits, IntKind.signed] at hw
      simp only [inI64]
      omega
    · simp [DataW.trod, hu] at h
theorem opens_bool {t : TypeId} (hu : P.underlying t = some .bool) : Opens P Bool t := by
  intro D enc W spare held fuel cs r h
  cases fuel with
  | zero => cases h
  | succ fuel =>
    rcases cs with _ | ⟨v, _ | ⟨w, tl⟩⟩
    · simp [DataW.trod, hu] at h
    · cases v <;> simp [DataW.trod, hu] at h
      exact ⟨_, fun H => rfl⟩
    · simp [DataW.trod, hu] at h
theorem opens_str {t : TypeId} (hu : P.underlying t = some .string) : Opens P ByteArray t := by
  intro D enc W spare held fuel cs r h
  cases fuel with
  | zero => cases h
  | succ fuel =>
    rcases cs with _ | ⟨v, _ | ⟨w, tl⟩⟩
    · simp [DataW.trod, hu] at h
    · cases v <;> simp [DataW.trod, hu] at h
      refine ⟨_, fun H => ⟨rfl, ?_⟩⟩
      have := h.1
      simp only [maxLen] at this
      simp only [big]
      omega
    · simp [DataW.trod, hu] at h
theorem opens_list {α : Type} [Ob α] {t e : TypeId} (hu : P.underlying t = some (.slice e)) (he : Opens P α e) (hn : P.cellsOf e = Ob.n α) : Opens P (List α) t := by
  intro D enc W spare held fuel cs r h
  cases fuel with
  | zero => cases h
  | succ fuel =>
    rcases cs with _ | ⟨v, _ | ⟨w, tl⟩⟩
    · simp [DataW.trod, hu] at h
    · cases v with
      | slice a len cap =>
        cases a with
        | none =>
          by_cases hz : len = 0 ∧ cap = 0
          · obtain ⟨rfl, rfl⟩ := hz
            exact ⟨[], fun H => ⟨_, rfl, rfl, Nat.zero_le _, [], rfl, .nil⟩⟩
          · simp only [DataW.trod, hu] at h
            split at h <;> simp_all
        | some a =>
          simp only [DataW.trod, hu] at h
          split at h
          case isFalse => cases h
          rename_i hc
          obtain ⟨_, hc1, hc2⟩ := hc
          obtain ⟨elems, hel, _⟩ := Option.bind_eq_some_iff.1 h
          rw [mapM_some_iff] at hel
          have hll : elems.length = len := by have := congrArg List.length hel; simpa using this.symm
          have each : ∀ i, i < len → ∃ ci : List Value, rdOld W (a.add (i * Ob.n α)) (Ob.n α) = some ci ∧ ∃ x : α, ∀ H : AH, Ob.rep W H (ci.map .v) x := by
            intro i hi
            have := congrArg (fun l => l[i]?) hel
            simp only [List.getElem?_map, List.getElem?_range hi, Option.map_some] at this
            rw [List.getElem?_eq_getElem (by omega), Option.map_some] at this
            injection this with this
            rw [hn] at this
            obtain ⟨ci, h1, h2⟩ := Option.bind_eq_some_iff.1 this
            refine ⟨ci, ?_, he enc W spare held fuel ci _ h2⟩
            simp only [World.cells?, Nat.zero_le, if_true] at h1
            exact h1
          have all : ∀ m, m ≤ len → ∃ xs : List α, xs.length = m ∧ ∃ l : List Value, rdOld W a (m * Ob.n α) = some l ∧ ∀ H : AH, Reps W H (l.map .v) xs := by
            intro m
            induction m with
            | zero => intro _; exact ⟨[], rfl, [], by simp [rdOld], fun H => .nil⟩
            | succ m ih =>
              intro hm
              obtain ⟨xs, k1, l, k2, k3⟩ := ih (by omega)
              obtain ⟨ci, k4, x, k5⟩ := each m (by omega)
              refine ⟨xs ++ [x], by simp [k1], l ++ ci, ?_, fun H => ?_⟩
              · rw [rdOld_iff] at k2 k4 ⊢
                refine ⟨by rw [List.length_append, k2.1, k4.1, Nat.add_mul]; omega, fun i hi => ?_⟩
                rw [Nat.add_mul, Nat.one_mul] at hi
                by_cases hlt : i < m * Ob.n α
                · rw [k2.2 i hlt, List.getElem?_append_left (by omega)]
                · have := k4.2 (i - m * Ob.n α) (by omega)
                  rw [Addr.add_add] at this
                  rw [show m * Ob.n α + (i - m * Ob.n α) = i by omega] at this
                  rw [this, List.getElem?_append_right (by omega), k2.1]
              · rw [List.map_append]
                have := (k3 H).append (Reps.cons (k5 H) .nil)
                rwa [List.append_nil] at this
          obtain ⟨xs, k1, l, k2, k3⟩ := all len (Nat.le_refl _)
          refine ⟨xs, fun H => ⟨_, rfl, by rw [k1]; rfl, ?_, l.map .v, ?_, k3 H⟩⟩
          · rw [k1]; simp only [maxLen] at hc2; simp only [big]; omega
          · rw [k1]; simp only [slCells, Nat.le_refl, hc1, and_self, if_true, k2, Option.map_some]
      | _ => simp [DataW.trod, hu] at h
    · simp [DataW.trod, hu] at h
theorem cellsOf_tyi {t : TypeId} {g : Bool} {n b : Nat} {z : List Value} (h : tyi P t = some ⟨g, n, b, z⟩) : P.cellsOf t = n := by
  obtain ⟨d, i, z', hd, hi, hz, he⟩ := tyi_run h
  injection he with _ he
  simp only [Program.cellsOf, hi, Option.map_some, Option.getD_some]
  exact he.symm
theorem trod_len {D : Type} {enc : TypeId × Value → D} {W : World} {spare : Nat → Bool} {held : Bool} {fuel : Nat} {t : TypeId} {cs : List Value} {r : DataW D × List MemPlace} {f off : Nat} {ft : TypeId}
    (h : DataW.trod enc P W 0 spare held fuel t cs = some r) (hf : fldt P t f = some (off, ft)) : cs.length = P.cellsOf t := by
  unfold fldt at hf
  split at hf
  case h_2 => cases hf
  rename_i fs hu
  cases fuel with
  | zero => cases h
  | succ fuel =>
    simp only [DataW.trod, hu] at h
    split at h
    · assumption
    · cases h
theorem trod_field {D : Type} {enc : TypeId × Value → D} {W : World} {spare : Nat → Bool} {held : Bool} {fuel : Nat} {t : TypeId} {cs : List Value} {r : DataW D × List MemPlace} {f off : Nat} {ft : TypeId}
    (h : DataW.trod enc P W 0 spare held fuel t cs = some r) (hf : fldt P t f = some (off, ft)) : ∃ fuel' r', DataW.trod enc P W 0 spare held fuel' ft ((cs.drop off).take (P.cellsOf ft)) = some r' := by
  unfold fldt at hf
  split at hf
  case h_2 => cases hf
  rename_i fs hu
  cases fuel with
  | zero => cases h
  | succ fuel =>
    simp only [DataW.trod, hu] at h
    split at h
    case isFalse => cases h
    obtain ⟨xs, hx, _⟩ := Option.map_eq_some_iff.1 h
    rw [mapM_some_iff] at hx
    obtain ⟨fd, hfd, he⟩ := Option.map_eq_some_iff.1 hf
    injection he with he1 he2
    subst he1 he2
    have hlen : f < fs.toList.length := by
      have := (Array.getElem?_eq_some_iff.1 hfd).1
      simpa using this
    have := congrArg (fun l => l[f]?) hx
    have hl2 := congrArg List.length hx
    simp only [List.length_map] at hl2
    simp only [List.getElem?_map] at this
    rw [show fs.toList[f]? = some fd by simpa using hfd, List.getElem?_eq_getElem (by omega)] at this
    simp only [Option.map_some, Option.some.injEq] at this
    exact ⟨fuel, _, this⟩
theorem of_intKd {t : TypeId} {k : IntKind} (h : intKd P t = some k) : P.underlying t = some (.int k) := by
  unfold intKd at h; split at h
  · rename_i hu; injection h with h; subst h; exact hu
  · cases h
theorem of_isStr {t : TypeId} (h : isStr P t = true) : P.underlying t = some .string := by
  unfold isStr at h; split at h
  · assumption
  · cases h
theorem of_elt {t e : TypeId} (h : elt P t = some e) : P.underlying t = some (.slice e) := by
  unfold elt at h; split at h
  · rename_i hu; injection h with h; subst h; exact hu
  · cases h
theorem VR.aggv {φ : Phi} (c : Array Value) : VR φ (.agg (c.toList.map .v)) (.agg c) := by
  have := VR.agg (VRs.vs (φ := φ) c.toList)
  simpa using this
theorem slr_of {α : Type} [Ob α] {W : World} {H : AH} {v : Value} {xs : List α} (h : Ob.rep W H ([v].map .v) xs) : SlR W H (.v v) xs := by
  obtain ⟨u, hu, hs⟩ := h
  injection hu with hu
  rw [hu]; exact hs
end Go.Proofs.Ythcjolappblieaa.Aw
