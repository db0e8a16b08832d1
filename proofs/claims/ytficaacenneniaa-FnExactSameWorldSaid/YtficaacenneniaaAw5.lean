/- The calculus 'Aw', part 5: slices, makes, clear; the theorem of one operation. -/
import Derived.Test.YtficaacenneniaaAw4
namespace Go.Proofs.Ytficaacenneniaa.Aw
open Go Go.RowKit
set_option linter.unusedVariables false
set_option linter.unusedSimpArgs false
set_option linter.unusedSectionVars false
variable {P : Program} {W0 W : World} {φ : Phi} {H : AH} {K : AV → AH → Prop}

theorem bound_run {x : Option AV} {y : Option Value} (hxy : ∀ a, x = some a → ∃ b, y = some b ∧ VR φ a b) (hn : x = none → y = none) {d l : Nat} {i : Int} (hb : boundA d x = some i) (h0 : 0 ≤ i) (hl : i ≤ l) (code : BoundsCode) (W : World) :
    (match y with | some v => Instr.sliceBound v l code | none => (pure d : Sem Nat)).run P W = .ok i.toNat W := by
  cases x with
  | none =>
    rw [hn rfl]
    simp only [boundA, Option.some.injEq] at hb
    subst hb
    simp
  | some a =>
    obtain ⟨b, rfl, hv⟩ := hxy a rfl
    cases a with
    | v x =>
      cases hv
      obtain ⟨k, rfl⟩ : ∃ k, b = .int k i := by
        cases b <;> simp [boundA] at hb
        exact ⟨_, by rw [hb]⟩
      simp only [Instr.sliceBound, asIntOf, Sem.run_bind, Sem.run_pure, Result.andThen_ok]
      rw [if_pos ⟨h0, hl⟩]
      rfl
    | _ => simp [boundA] at hb
theorem bounds_run {lo hi : Option AV} {lo' hi' : Option Value} (h1 : ∀ a, lo = some a → ∃ b, lo' = some b ∧ VR φ a b) (h1n : lo = none → lo' = none)
    (h2 : ∀ a, hi = some a → ∃ b, hi' = some b ∧ VR φ a b) (h2n : hi = none → hi' = none) {n c : Nat} {l h : Int} (hl : boundA 0 lo = some l) (hh : boundA n hi = some h) (k1 : 0 ≤ l) (k2 : l ≤ h) (k3 : h ≤ n) (k4 : n ≤ c) (b : Bool) (W : World) :
    (Instr.sliceBounds b n c lo' hi' none).run P W = .ok (l.toNat, h.toNat, c) W := by
  have b2 := bound_run (P := P) h2 h2n hh (by omega) (show h ≤ (c : Int) by omega) (if b then .sliceAcap else .sliceAlen) W
  have b1 := bound_run (P := P) h1 h1n hl k1 (show l ≤ (h.toNat : Int) by omega) .sliceB W
  cases hi' with
  | none =>
    simp only [Sem.run_pure, Result.ok.injEq, and_true] at b2
    cases lo' with
    | none =>
      simp only [Sem.run_pure, Result.ok.injEq, and_true] at b1
      simp [Instr.sliceBounds, ← b1, ← b2]
    | some v =>
      rw [← b2] at b1
      simp only at b1
      simp [Instr.sliceBounds, b1, ← b2]
  | some w =>
    simp only at b2
    cases lo' with
    | none =>
      simp only [Sem.run_pure, Result.ok.injEq, and_true] at b1
      simp [Instr.sliceBounds, ← b1, b2]
    | some v =>
      simp only at b1
      simp [Instr.sliceBounds, b1, b2]
theorem slice_run (hI : Inv W0 φ H W) {t : TypeId} {s : Nat} {x : AV} {y : Value} (hx : VR φ x y) {lo hi : Option AV} {lo' hi' : Option Value} (h1 : ∀ a, lo = some a → ∃ b, lo' = some b ∧ VR φ a b) (h1n : lo = none → lo' = none)
    (h2 : ∀ a, hi = some a → ∃ b, hi' = some b ∧ VR φ a b) (h2n : hi = none → hi' = none) (hs : aslice W0 H s x lo hi K)
    (ht : (∃ q, x = .v (.string q)) ∧ isStr P t = true ∨ (¬ ∃ q, x = .v (.string q)) ∧ ∃ e j, elt P t = some e ∧ P.info? e = some j ∧ j.size = s) : ∃ u, (Instr.sliceAt t y lo' hi' none).run P W = .ok u W ∧ Good W0 φ K u W := by
  unfold aslice at hs
  split at hs
  · rename_i q
    have hstr : P.underlying t = some .string := by
      rcases ht with ⟨_, h⟩ | ⟨h, _⟩
      · exact str_run h
      · exact absurd ⟨_, rfl⟩ h
    cases hx
    split at hs
    case h_2 => exact hs.elim
    rename_i l h hl hh
    obtain ⟨k1, k2, k3, k4⟩ := hs
    have hb := bounds_run (P := P) h1 h1n h2 h2n hl hh k1 k2 k3 (Nat.le_refl _) false W
    exact ⟨_, by simp [Instr.sliceAt, run_underlying hstr, Instr.slice, hb], good_same hI (.v _) k4⟩
  · rename_i b o n
    obtain ⟨e, j, he, hj, hjs⟩ : ∃ e j, elt P t = some e ∧ P.info? e = some j ∧ j.size = s := by
      rcases ht with ⟨⟨q, h⟩, _⟩ | ⟨_, h⟩
      · cases h
      · exact h
    split at hs
    case h_2 => exact hs.elim
    rename_i B hB
    split at hs
    case h_2 => exact hs.elim
    rename_i l h hl hh
    obtain ⟨k0, k1, k2, k3, k4⟩ := hs
    cases hx with
    | sl hp hnc hcap =>
      rename_i c ad p
      have hb := bounds_run (P := P) h1 h1n h2 h2n hl hh k1 k2 k3 hnc true W
      have hrun : (Instr.sliceAt t (.slice (some ad) n c) lo' hi' none).run P W = .ok (.slice (if c = l.toNat then some ad else (some ad).map (·.add (l.toNat * j.size))) (h.toNat - l.toNat) (c - l.toNat)) W := by
        simp [Instr.sliceAt, run_underlying (elt_run he), Instr.slice, hb, sizeOf_run hj]
      have hesz : p.esz = s := by
        obtain ⟨p0, hp0, _, k, _⟩ := hI.blks b B hB
        rw [hp] at hp0
        cases hp0
        rw [← k, k0]
      refine ⟨_, hrun, .sl b (o + l.toNat * s) (h.toNat - l.toNat), H, φ, ?_, hI, Ext.refl _, k4⟩
      by_cases hcl : c = l.toNat
      · rw [if_pos hcl]
        exact .sl hp (by omega) (.inl (by omega))
      · rw [if_neg hcl]
        simp only [Option.map_some]
        refine .sl hp (by omega) ?_
        rcases hcap with hc0 | ⟨rfl, hcl2⟩
        · omega
        · refine .inr ⟨by rw [Addr.add_lit, hjs, Nat.add_assoc], ?_⟩
          have : l.toNat * p.esz + (c - l.toNat) * p.esz = c * p.esz := by rw [← Nat.add_mul]; congr 1; omega
          rw [hesz] at *
          omega
  · rename_i A n c
    obtain ⟨e, j, he, hj, hjs⟩ : ∃ e j, elt P t = some e ∧ P.info? e = some j ∧ j.size = s := by
      rcases ht with ⟨⟨q, h⟩, _⟩ | ⟨_, h⟩
      · cases h
      · exact h
    split at hs
    case h_2 => exact hs.elim
    rename_i l h hl hh
    obtain ⟨k1, k2, k3, k5, k4⟩ := hs
    cases hx
    have hb := bounds_run (P := P) h1 h1n h2 h2n hl hh k1 k2 k3 k5 true W
    exact ⟨_, by simp [Instr.sliceAt, run_underlying (elt_run he), Instr.slice, hb, sizeOf_run hj, hjs], good_same hI (.v _) k4⟩
  · exact hs.elim

theorem makeSlice_run (hI : Inv W0 φ H W) {t e : TypeId} {i : TyI} (he : elt P t = some e) (ht : tyi P e = some i) {n : Int} (h0 : 0 ≤ n) (hb : n * i.bytes ≤ 281474976710656) (hn : n ≤ 281474976710656) (hzl : i.zero.length = i.size)
    (hK : K (.sl H.nxt 0 n.toNat) (H.new (zerosA i.zero n.toNat) i.size)) :
    ∃ y W', (Instr.makeSlice t (.int .i64 n) (.int .i64 n)).run P W = .ok y W' ∧ Good W0 φ K y W' := by
  obtain ⟨d, j, z, hd, hj, hz, rfl⟩ := tyi_run ht
  simp only at hb hzl hK
  obtain ⟨m, rfl⟩ := Int.eq_ofNat_of_zero_le h0
  have hzs : z.cells.size = j.size := by rw [← hzl, Array.length_toList]
  have hw : IntKind.i64.wrap (m : Int) = m := by
    unfold IntKind.wrap
    simp [IntKind.bits, IntKind.signed]
    omega
  have hbig : ¬ ((j.bytes : Int) * (m : Int) > 2 ^ 48) := by
    rw [Int.mul_comm]
    simp; omega
  obtain ⟨hI', hx⟩ := good_new hI (zerosA_ok z.cells.toList m) j.size e (C := (List.replicate m z.cells.toList).flatten.toArray) rfl
  have hcs : (List.replicate m z.cells.toList).flatten.toArray.size = m * j.size := by
    have := (zerosA_ok (φ := φ) z.cells.toList m).length
    rw [zerosA_length, Array.length_toList, hzs] at this
    simpa using this.symm
  refine ⟨.slice (some ⟨W.heap.size, 0, none⟩) m m, _, ?_, .sl H.nxt 0 m, _, _, .sl (updφ_at _ _ _) (Nat.le_refl _) (.inr ⟨by simp, by rw [hcs]; simp⟩), hI', hx, by simpa using hK⟩
  have hcells : (Array.range (m * j.size)).map (z.cells[· % z.cells.size]!) = (List.replicate m z.cells.toList).flatten.toArray := by
    apply Array.ext'
    rw [zeros_list z.cells m j.size hzs]
  have hneg : ¬ ((m : Int) < 0) := by omega
  have hbig' : ¬ (281474976710656 < (j.bytes : Int) * (m : Int)) := by rw [Int.mul_comm]; omega
  by_cases hz0 : m * j.size = 0
  · have hemp : (List.replicate m z.cells.toList).flatten.toArray = #[] := by
      apply Array.eq_empty_of_size_eq_zero
      rw [hcs, hz0]
    rw [hemp]
    simp [Instr.makeSlice, run_underlying (elt_run he), asInt, asIntOf, typeInfo, hj, hw, hbig', sizeOf_run hj, hz0, newRow, hneg]
    have hr0 : Array.map (fun _ : Nat => (default : Value)) (Array.range 0) = #[] := by simp
    first | (rw [hr0]; done) | (rw [hr0]; rfl)
  · simp [Instr.makeSlice, run_underlying (elt_run he), asInt, asIntOf, typeInfo, hj, hw, hbig', sizeOf_run hj, zero_run hj hz, hz0, newRow, hcells, hneg]
    try rfl

theorem clear_run (hI : Inv W0 φ H W) {t e : TypeId} {i : TyI} (he : elt P t = some e) (ht : tyi P e = some i) {b o n : Nat} {y : Value} {B : Blk} (hx : VR φ (.sl b o n) y) (hB : H.blk b = some B) (hes : B.esz = i.size) (hzl : i.zero.length = i.size) (hlf : i.zero.all leafV = true)
    (hon : o + n * i.size ≤ B.cells.length) (ty : TypeId) (hK : K .dead (H.set b ⟨wr B.cells o (zerosA i.zero n), B.esz⟩)) : ∃ y' W', (Builtin.clear_ #[t] ty #[y]).run P W = .ok y' W' ∧ Good W0 φ K y' W' := by
  obtain ⟨d, j, z, hd, hj, hz, rfl⟩ := tyi_run ht
  simp only at hes hzl hlf hon hK
  have hzs : z.cells.size = j.size := by rw [← hzl, Array.length_toList]
  cases hx with
  | sl hp hnc hcap =>
    rename_i c ad p
    obtain ⟨p0, hp0, k1, k2, k3, C, et, hC, k4, k5⟩ := hI.blks b B hB
    rw [hp] at hp0
    cases hp0
    rcases Nat.eq_zero_or_pos n with hn0 | hn0
    · subst hn0
      refine ⟨.tuple #[], W, ?_, .dead, H.set b ⟨wr B.cells o (zerosA z.cells.toList 0), B.esz⟩, φ, .dead _, ?_, Ext.refl _, hK⟩
      · simp [Builtin.clear_, run_underlying (elt_run he)]
      · have hw : wr B.cells o (zerosA z.cells.toList 0) = B.cells := by simp [wr, zerosA]
        have := hI.write hB hp hC rfl (cells := wr B.cells o (zerosA z.cells.toList 0)) (by rw [hw]; exact k3) (by rw [hw]; exact k5)
        rwa [setRow_self W p.g C et (0, 0) hC] at this
    · rcases hcap with hc0 | ⟨rfl, hcl⟩
      · omega
      have hzc : (Builtin.zeroCells z.cells n).toList = (List.replicate n z.cells.toList).flatten := zeros_list z.cells n z.cells.size rfl
      have hv : VRs φ (zerosA z.cells.toList n) (Builtin.zeroCells z.cells n).toList := by rw [hzc]; exact zerosA_ok _ _
      have hlen := hv.length
      have hzz0 : (Builtin.zeroCells z.cells n).size = (Builtin.zeroCells z.cells n).toList.length := by simp
      have hzl2 : (zerosA z.cells.toList n).length = n * j.size := by rw [zerosA_length, Array.length_toList, hzs]
      have hleaf : (zerosA z.cells.toList n).all leafA = true := by
        simp only [List.all_eq_true]
        intro a ha
        simp only [zerosA, List.mem_flatten, List.mem_replicate] at ha
        obtain ⟨l, ⟨_, rfl⟩, ha⟩ := ha
        simp only [List.mem_map] at ha
        obtain ⟨u, hu, rfl⟩ := ha
        simp only [List.all_eq_true] at hlf
        exact hlf u hu
      have hst := run_storeCells_at P p.g (p.base + o) et (Builtin.zeroCells z.cells n).toList 0 C W hC (by simp only [Nat.add_zero]; omega) (leafs_ok hv hleaf)
      simp only [Nat.add_zero] at hst
      refine ⟨.tuple #[], W.setRow p.g (C.toList.take (p.base + o) ++ (Builtin.zeroCells z.cells n).toList ++ C.toList.drop (p.base + o + (Builtin.zeroCells z.cells n).toList.length)).toArray, ?_, .dead, H.set b ⟨wr B.cells o (zerosA z.cells.toList n), B.esz⟩, φ, .dead _, ?_, Ext.refl _, hK⟩
      · obtain ⟨n, rfl⟩ : ∃ m, n = m + 1 := ⟨n - 1, by omega⟩
        simp only [Array.length_toList] at hst
        simp [Builtin.clear_, run_underlying (elt_run he), zero_run hj hz, hst]
      · refine hI.write hB hp hC (by simp; omega) (by rw [wr_length _ _ _ (by omega)]; exact k3) fun q v hq => ?_
        unfold wr at hq
        simp only [List.getElem?_toArray] at hq ⊢
        simp only [List.getElem?_append, List.length_append, List.length_take, Array.length_toList] at hq ⊢
        have m1 : min o B.cells.length = o := by omega
        have m2 : min (p.base + o) C.size = p.base + o := by omega
        rw [m1, hzl2] at hq
        have hzz : (Builtin.zeroCells z.cells n).size = n * j.size := by rw [← Array.length_toList, ← hlen, hzl2]
        rw [m2, hzz]
        by_cases c1 : q < o
        · rw [if_pos (by omega), if_pos c1, List.getElem?_take, if_pos c1] at hq
          rw [if_pos (by omega), if_pos (by omega), List.getElem?_take, if_pos (by omega), Array.getElem?_toList]
          exact k5 q v hq
        · by_cases c2 : q < o + n * j.size
          · rw [if_pos c2, if_neg c1] at hq
            rw [if_pos (by omega), if_neg (by omega), show p.base + q - (p.base + o) = q - o from by omega]
            exact hv.get _ _ hq
          · rw [if_neg c2, List.getElem?_drop] at hq
            rw [if_neg (by omega), List.getElem?_drop, Array.getElem?_toList, show p.base + o + n * j.size + (p.base + q - (p.base + o + n * j.size)) = p.base + (o + n * j.size + (q - (o + n * j.size))) from by omega]
            exact k5 _ v hq
end Go.Proofs.Ytficaacenneniaa.Aw
