/- The calculus 'Aw', part 5: slices, makes, clear; the theorem of one operation. -/
import Derived.Test.YthcjolappblieaaAw4
namespace Go.Proofs.Ythcjolappblieaa.Aw
open Go Go.RowKit
set_option linter.unusedVariables false
set_option linter.unusedSimpArgs false
set_option linter.unusedSectionVars false
set_option maxHeartbeats 1000000
variable {P : Program} {W0 W : World} {φ : Phi} {H : AH} {K : AV → AH → Prop}

theorem bound_run {x : Option AV} {y : Option Value} (hxy : ∀ a, x = some a → ∃ b, y = some b ∧ VR φ a b) (hn : x = none → y = none) {d l : Nat} {i : Int} (hb : boundA d x = some i) (h0 : 0 ≤ i) (hl : i ≤ l) (code : BoundsCode) (W : World) :
    (match y with | some v => Instr.sliceBound v l code | none => (pure d : Sem Nat)).run P W = .ok i.toNat W := by
  cases x with
  | none =>
    rw [hn rfl]
    simp only [boundA, Option.some.injEq] at hb
    subst hb
    simp
  | some a =>
    obtain ⟨b, rfl, hv⟩ := hxy a rfl
    cases a with
    | v x =>
      cases hv
      obtain ⟨k, rfl⟩ : ∃ k, b = .int k i := by
        cases b <;> simp [boundA] at hb
        exact ⟨_, by rw [hb]⟩
      simp only [Instr.sliceBound, asIntOf, Sem.run_bind, Sem.run_pure, Result.andThen_ok]
      rw [if_pos ⟨h0, hl⟩]
      rfl
    | _ => simp [boundA] at hb
theorem bounds_runc {lo hi : Option AV} {lo' hi' : Option Value} (h1 : ∀ a, lo = some a → ∃ b, lo' = some b ∧ VR φ a b) (h1n : lo = none → lo' = none)
    (h2 : ∀ a, hi = some a → ∃ b, hi' = some b ∧ VR φ a b) (h2n : hi = none → hi' = none) {n c : Nat} {l h : Int} (hl : boundA 0 lo = some l) (hh : boundA n hi = some h) (k1 : 0 ≤ l) (k2 : l ≤ h) (k3 : h ≤ c) (b : Bool) (W : World) :
    (Instr.sliceBounds b n c lo' hi' none).run P W = .ok (l.toNat, h.toNat, c) W := by
  have b2 := bound_run (P := P) h2 h2n hh (by omega) (show h ≤ (c : Int) by omega) (if b then .sliceAcap else .sliceAlen) W
  have b1 := bound_run (P := P) h1 h1n hl k1 (show l ≤ (h.toNat : Int) by omega) .sliceB W
  cases hi' with
  | none =>
    simp only [Sem.run_pure, Result.ok.injEq, and_true] at b2
    cases lo' with
    | none =>
      simp only [Sem.run_pure, Result.ok.injEq, and_true] at b1
      simp [Instr.sliceBounds, ← b1, ← b2]
    | some v =>
      rw [← b2] at b1
      simp only at b1
      simp [Instr.sliceBounds, b1, ← b2]
  | some w =>
    simp only at b2
    cases lo' with
    | none =>
      simp only [Sem.run_pure, Result.ok.injEq, and_true] at b1
      simp [Instr.sliceBounds, ← b1, b2]
    | some v =>
      simp only at b1
      simp [Instr.sliceBounds, b1, b2]
theorem bounds_run {lo hi : Option AV} {lo' hi' : Option Value} (h1 : ∀ a, lo = some a → ∃ b, lo' = some b ∧ VR φ a b) (h1n : lo = none → lo' = none)
    (h2 : ∀ a, hi = some a → ∃ b, hi' = some b ∧ VR φ a b) (h2n : hi = none → hi' = none) {n c : Nat} {l h : Int} (hl : boundA 0 lo = some l) (hh : boundA n hi = some h) (k1 : 0 ≤ l) (k2 : l ≤ h) (k3 : h ≤ n) (k4 : n ≤ c) (b : Bool) (W : World) :
    (Instr.sliceBounds b n c lo' hi' none).run P W = .ok (l.toNat, h.toNat, c) W := bounds_runc h1 h1n h2 h2n hl hh k1 k2 (by omega) b W
theorem slice_run (hI : Inv W0 φ H W) {t : TypeId} {s : Nat} {x : AV} {y : Value} (hx : VR φ x y) {lo hi : Option AV} {lo' hi' : Option Value} (h1 : ∀ a, lo = some a → ∃ b, lo' = some b ∧ VR φ a b) (h1n : lo = none → lo' = none)
    (h2 : ∀ a, hi = some a → ∃ b, hi' = some b ∧ VR φ a b) (h2n : hi = none → hi' = none) (hs : aslice W0 H s x lo hi K)
    (ht : (∃ q, x = .v (.string q)) ∧ isStr P t = true ∨ (¬ ∃ q, x = .v (.string q)) ∧ ∃ e j, elt P t = some e ∧ P.info? e = some j ∧ j.size = s) : ∃ u, (Instr.sliceAt t y lo' hi' none).run P W = .ok u W ∧ Good W0 φ K u W := by
  unfold aslice at hs
  split at hs
  · rename_i q
    have hstr : P.underlying t = some .string := by
      rcases ht with ⟨_, h⟩ | ⟨h, _⟩
      · exact str_run h
      · exact absurd ⟨_, rfl⟩ h
    cases hx
    split at hs
    case h_2 => exact hs.elim
    rename_i l h hl hh
    obtain ⟨k1, k2, k3, k4⟩ := hs
    have hb := bounds_run (P := P) h1 h1n h2 h2n hl hh k1 k2 k3 (Nat.le_refl _) false W
    exact ⟨_, by simp [Instr.sliceAt, run_underlying hstr, Instr.slice, hb], good_same hI (.v _) k4⟩
  · rename_i b o n
    obtain ⟨e, j, he, hj, hjs⟩ : ∃ e j, elt P t = some e ∧ P.info? e = some j ∧ j.size = s := by
      rcases ht with ⟨⟨q, h⟩, _⟩ | ⟨_, h⟩
      · cases h
      · exact h
    split at hs
    case h_2 => exact hs.elim
    rename_i B hB
    split at hs
    case h_2 => exact hs.elim
    rename_i l h hl hh
    obtain ⟨k0, k1, k2, k3, k4⟩ := hs
    cases hx with
    | sl hp hnc hcap =>
      rename_i c ad p
      have hb := bounds_run (P := P) h1 h1n h2 h2n hl hh k1 k2 k3 hnc true W
      have hrun : (Instr.sliceAt t (.slice (some ad) n c) lo' hi' none).run P W = .ok (.slice (if c = l.toNat then some ad else (some ad).map (·.add (l.toNat * j.size))) (h.toNat - l.toNat) (c - l.toNat)) W := by
        simp [Instr.sliceAt, run_underlying (elt_run he), Instr.slice, hb, sizeOf_run hj]
      have hesz : p.esz = s := by
        obtain ⟨p0, hp0, _, k, _⟩ := hI.blks b B hB
        rw [hp] at hp0
        cases hp0
        rw [← k, k0]
      refine ⟨_, hrun, .sl b (o + l.toNat * s) (h.toNat - l.toNat), H, φ, ?_, hI, Ext.refl _, k4⟩
      by_cases hcl : c = l.toNat
      · rw [if_pos hcl]
        exact .sl hp (by omega) (.inl (by omega))
      · rw [if_neg hcl]
        simp only [Option.map_some]
        refine .sl hp (by omega) ?_
        rcases hcap with hc0 | ⟨rfl, hcl2⟩
        · omega
        · refine .inr ⟨by rw [Addr.add_lit, hjs, Nat.add_assoc], ?_⟩
          have : l.toNat * p.esz + (c - l.toNat) * p.esz = c * p.esz := by rw [← Nat.add_mul]; congr 1; omega
          rw [hesz] at *
          omega
  · rename_i b o n c
    obtain ⟨e, j, he, hj, hjs⟩ : ∃ e j, elt P t = some e ∧ P.info? e = some j ∧ j.size = s := by
      rcases ht with ⟨⟨q, h⟩, _⟩ | ⟨_, h⟩
      · cases h
      · exact h
    split at hs
    case h_2 => exact hs.elim
    rename_i B hB
    split at hs
    case h_2 => exact hs.elim
    rename_i l h hl hh
    obtain ⟨k0, k1, k2, k3, k4⟩ := hs
    cases hx with
    | slc hp hnc hcap =>
      rename_i ad p
      have hb := bounds_runc (P := P) h1 h1n h2 h2n hl hh k1 k2 k3 true W
      have hrun : (Instr.sliceAt t (.slice (some ad) n c) lo' hi' none).run P W = .ok (.slice (if c = l.toNat then some ad else (some ad).map (·.add (l.toNat * j.size))) (h.toNat - l.toNat) (c - l.toNat)) W := by
        simp [Instr.sliceAt, run_underlying (elt_run he), Instr.slice, hb, sizeOf_run hj]
      have hesz : p.esz = s := by
        obtain ⟨p0, hp0, _, k, _⟩ := hI.blks b B hB
        rw [hp] at hp0
        cases hp0
        rw [← k, k0]
      refine ⟨_, hrun, .slc b (o + l.toNat * s) (h.toNat - l.toNat) (c - l.toNat), H, φ, ?_, hI, Ext.refl _, k4⟩
      by_cases hcl : c = l.toNat
      · rw [if_pos hcl]
        exact .slc hp (by omega) (.inl (by omega))
      · rw [if_neg hcl]
        simp only [Option.map_some]
        refine .slc hp (by omega) ?_
        rcases hcap with hc0 | ⟨rfl, hcl2⟩
        · omega
        · refine .inr ⟨by rw [Addr.add_lit, hjs, Nat.add_assoc], ?_⟩
          have : l.toNat * p.esz + (c - l.toNat) * p.esz = c * p.esz := by rw [← Nat.add_mul]; congr 1; omega
          rw [hesz] at *
          omega
  · obtain ⟨e, j, he, hj, hjs⟩ : ∃ e j, elt P t = some e ∧ P.info? e = some j ∧ j.size = s := by
      rcases ht with ⟨⟨q, h⟩, _⟩ | ⟨_, h⟩
      · cases h
      · exact h
    split at hs
    case h_2 => exact hs.elim
    rename_i l h hl hh
    obtain ⟨rfl, rfl, k4⟩ := hs
    cases hx with
    | sl0 A =>
      have hb := bounds_runc (P := P) (c := 0) h1 h1n h2 h2n hl hh (by omega) (by omega) (by omega) true W
      exact ⟨.slice A 0 0, by simp [Instr.sliceAt, run_underlying (elt_run he), Instr.slice, hb, sizeOf_run hj], good_same hI (.sl0 A) k4⟩
  · rename_i A n c
    obtain ⟨e, j, he, hj, hjs⟩ : ∃ e j, elt P t = some e ∧ P.info? e = some j ∧ j.size = s := by
      rcases ht with ⟨⟨q, h⟩, _⟩ | ⟨_, h⟩
      · cases h
      · exact h
    split at hs
    case h_2 => exact hs.elim
    rename_i l h hl hh
    obtain ⟨k1, k2, k3, k5, k4⟩ := hs
    cases hx
    have hb := bounds_run (P := P) h1 h1n h2 h2n hl hh k1 k2 k3 k5 true W
    exact ⟨_, by simp [Instr.sliceAt, run_underlying (elt_run he), Instr.slice, hb, sizeOf_run hj, hjs], good_same hI (.v _) k4⟩
  · exact hs.elim

theorem boundA_some {φ : Phi} {a : AV} {y : Value} {i : Int} (h : VR φ a y) (hb : boundA 0 (some a) = some i) : ∃ k, y = .int k i := by
  cases a with
  | v x =>
    cases h
    cases y <;> simp [boundA] at hb
    exact ⟨_, by rw [hb]⟩
  | _ => simp [boundA] at hb
theorem slice3_run (hI : Inv W0 φ H W) {t : TypeId} {s : Nat} {x : AV} {y : Value} (hx : VR φ x y) {lo hi mx : Option AV} {lo' hi' mx' : Option Value} (h1 : ∀ a, lo = some a → ∃ b, lo' = some b ∧ VR φ a b) (h1n : lo = none → lo' = none)
    (h2 : ∀ a, hi = some a → ∃ b, hi' = some b ∧ VR φ a b) (h3 : ∀ a, mx = some a → ∃ b, mx' = some b ∧ VR φ a b) (hs : aslice3 W0 H s x lo hi mx K)
    (ht : ∃ e j, elt P t = some e ∧ P.info? e = some j ∧ j.size = s) : ∃ u, (Instr.sliceAt t y lo' hi' mx').run P W = .ok u W ∧ Good W0 φ K u W := by
  obtain ⟨e, j, he, hj, hjs⟩ := ht
  unfold aslice3 at hs
  split at hs
  case h_2 => exact hs.elim
  rename_i l h m hl hh hm
  obtain ⟨ah, rfl, hh⟩ := Option.bind_eq_some_iff.1 hh
  obtain ⟨am, rfl, hm⟩ := Option.bind_eq_some_iff.1 hm
  obtain ⟨bh, rfl, vh⟩ := h2 _ rfl
  obtain ⟨bm, rfl, vm⟩ := h3 _ rfl
  obtain ⟨kh, rfl⟩ := boundA_some vh hh
  obtain ⟨km, rfl⟩ := boundA_some vm hm
  have bounds : ∀ (n c : Nat), 0 ≤ l → l ≤ h → h ≤ m → m ≤ c → (Instr.sliceBounds true n c lo' (some (.int kh h)) (some (.int km m))).run P W = .ok (l.toNat, h.toNat, m.toNat) W := by
    intro n c g1 g2 g3 g4
    have bm := bound_run (P := P) (φ := φ) (x := some am) (y := some (.int km m)) (fun a ha => ⟨_, rfl, by cases ha; exact vm⟩) (fun h => by cases h) (d := 0) hm (by omega) g4 .slice3Acap W
    have bh := bound_run (P := P) (φ := φ) (x := some ah) (y := some (.int kh h)) (fun a ha => ⟨_, rfl, by cases ha; exact vh⟩) (fun h => by cases h) (d := 0) hh (by omega) (show h ≤ (m.toNat : Int) by omega) .slice3B W
    have bl := bound_run (P := P) h1 h1n hl g1 (show l ≤ (h.toNat : Int) by omega) .slice3C W
    simp only at bm bh
    cases lo' with
    | none =>
      simp only [Sem.run_pure, Result.ok.injEq, and_true] at bl
      simp [Instr.sliceBounds, bm, bh, ← bl]
    | some v =>
      simp only at bl
      simp [Instr.sliceBounds, bm, bh, bl]
  split at hs
  · rename_i b o n c
    split at hs
    case h_2 => exact hs.elim
    rename_i B hB
    obtain ⟨k0, k1, k2, k3, k3', k4⟩ := hs
    cases hx with
    | slc hp hnc hcap =>
      rename_i ad p
      have hb := bounds n c k1 k2 k3 k3'
      have hrun : (Instr.sliceAt t (.slice (some ad) n c) lo' (some (.int kh h)) (some (.int km m))).run P W = .ok (.slice (if m.toNat = l.toNat then some ad else (some ad).map (·.add (l.toNat * j.size))) (h.toNat - l.toNat) (m.toNat - l.toNat)) W := by
        simp [Instr.sliceAt, run_underlying (elt_run he), Instr.slice, hb, sizeOf_run hj]
      have hesz : p.esz = s := by
        obtain ⟨p0, hp0, _, k, _⟩ := hI.blks b B hB
        rw [hp] at hp0
        cases hp0
        rw [← k, k0]
      refine ⟨_, hrun, .slc b (o + l.toNat * s) (h.toNat - l.toNat) (m.toNat - l.toNat), H, φ, ?_, hI, Ext.refl _, k4⟩
      by_cases hcl : m.toNat = l.toNat
      · rw [if_pos hcl]
        exact .slc hp (by omega) (.inl (by omega))
      · rw [if_neg hcl]
        simp only [Option.map_some]
        refine .slc hp (by omega) ?_
        rcases hcap with hc0 | ⟨rfl, hcl2⟩
        · omega
        · refine .inr ⟨by rw [Addr.add_lit, hjs, Nat.add_assoc], ?_⟩
          have h1 : l.toNat * p.esz + (m.toNat - l.toNat) * p.esz = m.toNat * p.esz := by rw [← Nat.add_mul]; congr 1; omega
          have h2 : m.toNat * p.esz ≤ c * p.esz := Nat.mul_le_mul_right _ (by omega)
          rw [hesz] at *
          omega
  · obtain ⟨k0, rfl, rfl, rfl, k4⟩ := hs
    obtain ⟨n, hn⟩ := Option.isSome_iff_exists.1 k0
    obtain ⟨A, c, rfl⟩ : ∃ A c, y = .slice A n c := by
      cases hx with
      | v y =>
        cases y <;> simp only [slLen, Option.some.injEq] at hn <;> first | cases hn | skip
        exact ⟨_, _, rfl⟩
      | sl _ _ _ => simp only [slLen, Option.some.injEq] at hn; subst hn; exact ⟨_, _, rfl⟩
      | sl0 a => simp only [slLen, Option.some.injEq] at hn; subst hn; exact ⟨_, _, rfl⟩
      | _ => simp [slLen] at hn
    have hb := bounds n c (by omega) (by omega) (by omega) (by omega)
    exact ⟨.slice A 0 0, by simp [Instr.sliceAt, run_underlying (elt_run he), Instr.slice, hb, sizeOf_run hj], good_same hI (.sl0 A) k4⟩

theorem makeSlice_run (hI : Inv W0 φ H W) {t e : TypeId} {i : TyI} (he : elt P t = some e) (ht : tyi P e = some i) {n : Int} (h0 : 0 ≤ n) (hb : n * i.bytes ≤ 281474976710656) (hn : n ≤ 281474976710656) (hzl : i.zero.length = i.size)
    (hK : K (.sl H.nxt 0 n.toNat) (H.new (zerosA i.zero n.toNat) i.size)) :
    ∃ y W', (Instr.makeSlice t (.int .i64 n) (.int .i64 n)).run P W = .ok y W' ∧ Good W0 φ K y W' := by
  obtain ⟨d, j, z, hd, hj, hz, rfl⟩ := tyi_run ht
  simp only at hb hzl hK
  obtain ⟨m, rfl⟩ := Int.eq_ofNat_of_zero_le h0
  have hzs : z.cells.size = j.size := by rw [← hzl, Array.length_toList]
  have hw : IntKind.i64.wrap (m : Int) = m := by
    unfold IntKind.wrap
    simp [IntKind.bits, IntKind.signed]
    omega
  have hbig : ¬ ((j.bytes : Int) * (m : Int) > 2 ^ 48) := by
    rw [Int.mul_comm]
    simp; omega
  obtain ⟨hI', hx⟩ := good_new hI (zerosA_ok z.cells.toList m) j.size e (C := (List.replicate m z.cells.toList).flatten.toArray) rfl
  have hcs : (List.replicate m z.cells.toList).flatten.toArray.size = m * j.size := by
    have := (zerosA_ok (φ := φ) z.cells.toList m).length
    rw [zerosA_length, Array.length_toList, hzs] at this
    simpa using this.symm
  refine ⟨.slice (some ⟨W.heap.size, 0, none⟩) m m, _, ?_, .sl H.nxt 0 m, _, _, .sl (updφ_at _ _ _) (Nat.le_refl _) (.inr ⟨by simp, by rw [hcs]; simp⟩), hI', hx, by simpa using hK⟩
  have hcells : (Array.range (m * j.size)).map (z.cells[· % z.cells.size]!) = (List.replicate m z.cells.toList).flatten.toArray := by
    apply Array.ext'
    rw [zeros_list z.cells m j.size hzs]
  have hneg : ¬ ((m : Int) < 0) := by omega
  have hbig' : ¬ (281474976710656 < (j.bytes : Int) * (m : Int)) := by rw [Int.mul_comm]; omega
  by_cases hz0 : m * j.size = 0
  · have hemp : (List.replicate m z.cells.toList).flatten.toArray = #[] := by
      apply Array.eq_empty_of_size_eq_zero
      rw [hcs, hz0]
    rw [hemp]
    simp [Instr.makeSlice, run_underlying (elt_run he), asInt, asIntOf, typeInfo, hj, hw, hbig', sizeOf_run hj, hz0, newRow, hneg]
    have hr0 : Array.map (fun _ : Nat => (default : Value)) (Array.range 0) = #[] := by simp
    first | (rw [hr0]; done) | (rw [hr0]; rfl)
  · simp [Instr.makeSlice, run_underlying (elt_run he), asInt, asIntOf, typeInfo, hj, hw, hbig', sizeOf_run hj, zero_run hj hz, hz0, newRow, hcells, hneg]
    try rfl

theorem clear_run (hI : Inv W0 φ H W) {t e : TypeId} {i : TyI} (he : elt P t = some e) (ht : tyi P e = some i) {b o n : Nat} {y : Value} {B : Blk} (hx : VR φ (.sl b o n) y) (hB : H.blk b = some B) (hes : B.esz = i.size) (hzl : i.zero.length = i.size) (hlf : i.zero.all leafV = true)
    (hon : o + n * i.size ≤ B.cells.length) (ty : TypeId) (hK : K .dead (H.set b ⟨wr B.cells o (zerosA i.zero n), B.esz⟩)) : ∃ y' W', (Builtin.clear_ #[t] ty #[y]).run P W = .ok y' W' ∧ Good W0 φ K y' W' := by
  obtain ⟨d, j, z, hd, hj, hz, rfl⟩ := tyi_run ht
  simp only at hes hzl hlf hon hK
  have hzs : z.cells.size = j.size := by rw [← hzl, Array.length_toList]
  cases hx with
  | sl hp hnc hcap =>
    rename_i c ad p
    obtain ⟨p0, hp0, k1, k2, k3, C, et, hC, k4, k5⟩ := hI.blks b B hB
    rw [hp] at hp0
    cases hp0
    rcases Nat.eq_zero_or_pos n with hn0 | hn0
    · subst hn0
      refine ⟨.tuple #[], W, ?_, .dead, H.set b ⟨wr B.cells o (zerosA z.cells.toList 0), B.esz⟩, φ, .dead _, ?_, Ext.refl _, hK⟩
      · simp [Builtin.clear_, run_underlying (elt_run he)]
      · have hw : wr B.cells o (zerosA z.cells.toList 0) = B.cells := by simp [wr, zerosA]
        have := hI.write hB hp hC rfl (cells := wr B.cells o (zerosA z.cells.toList 0)) (by rw [hw]; exact k3) (by rw [hw]; exact k5)
        rwa [setRow_self W p.g C et (0, 0) hC] at this
    · rcases hcap with hc0 | ⟨rfl, hcl⟩
      · omega
      have hzc : (Builtin.zeroCells z.cells n).toList = (List.replicate n z.cells.toList).flatten := zeros_list z.cells n z.cells.size rfl
      have hv : VRs φ (zerosA z.cells.toList n) (Builtin.zeroCells z.cells n).toList := by rw [hzc]; exact zerosA_ok _ _
      have hlen := hv.length
      have hzz0 : (Builtin.zeroCells z.cells n).size = (Builtin.zeroCells z.cells n).toList.length := by simp
      have hzl2 : (zerosA z.cells.toList n).length = n * j.size := by rw [zerosA_length, Array.length_toList, hzs]
      have hleaf : (zerosA z.cells.toList n).all leafA = true := by
        simp only [List.all_eq_true]
        intro a ha
        simp only [zerosA, List.mem_flatten, List.mem_replicate] at ha
        obtain ⟨l, ⟨_, rfl⟩, ha⟩ := ha
        simp only [List.mem_map] at ha
        obtain ⟨u, hu, rfl⟩ := ha
        simp only [List.all_eq_true] at hlf
        exact hlf u hu
      have hst := run_storeCells_at P p.g (p.base + o) et (Builtin.zeroCells z.cells n).toList 0 C W hC (by simp only [Nat.add_zero]; omega) (leafs_ok hv hleaf)
      simp only [Nat.add_zero] at hst
      refine ⟨.tuple #[], W.setRow p.g (C.toList.take (p.base + o) ++ (Builtin.zeroCells z.cells n).toList ++ C.toList.drop (p.base + o + (Builtin.zeroCells z.cells n).toList.length)).toArray, ?_, .dead, H.set b ⟨wr B.cells o (zerosA z.cells.toList n), B.esz⟩, φ, .dead _, ?_, Ext.refl _, hK⟩
      · obtain ⟨n, rfl⟩ : ∃ m, n = m + 1 := ⟨n - 1, by omega⟩
        simp only [Array.length_toList] at hst
        simp [Builtin.clear_, run_underlying (elt_run he), zero_run hj hz, hst]
      · refine hI.write hB hp hC (by simp; omega) (by rw [wr_length _ _ _ (by omega)]; exact k3) fun q v hq => ?_
        unfold wr at hq
        simp only [List.getElem?_toArray] at hq ⊢
        simp only [List.getElem?_append, List.length_append, List.length_take, Array.length_toList] at hq ⊢
        have m1 : min o B.cells.length = o := by omega
        have m2 : min (p.base + o) C.size = p.base + o := by omega
        rw [m1, hzl2] at hq
        have hzz : (Builtin.zeroCells z.cells n).size = n * j.size := by rw [← Array.length_toList, ← hlen, hzl2]
        rw [m2, hzz]
        by_cases c1 : q < o
        · rw [if_pos (by omega), if_pos c1, List.getElem?_take, if_pos c1] at hq
          rw [if_pos (by omega), if_pos (by omega), List.getElem?_take, if_pos (by omega), Array.getElem?_toList]
          exact k5 q v hq
        · by_cases c2 : q < o + n * j.size
          · rw [if_pos c2, if_neg c1] at hq
            rw [if_pos (by omega), if_neg (by omega), show p.base + q - (p.base + o) = q - o from by omega]
            exact hv.get _ _ hq
          · rw [if_neg c2, List.getElem?_drop] at hq
            rw [if_neg (by omega), List.getElem?_drop, Array.getElem?_toList, show p.base + o + n * j.size + (p.base + q - (p.base + o + n * j.size)) = p.base + (o + n * j.size + (q - (o + n * j.size))) from by omega]
            exact k5 _ v hq
theorem slBlk_ok {φ : Phi} {x : AV} {y : Value} (h : VR φ x y) {b o n : Nat} (hb : slBlk x = some (b, o, n)) : VR φ (.sl b o n) y := by
  cases h with
  | sl h1 h2 h3 => simp only [slBlk, Option.some.injEq, Prod.mk.injEq] at hb; obtain ⟨rfl, rfl, rfl⟩ := hb; exact .sl h1 h2 h3
  | slc h1 h2 h3 => simp only [slBlk, Option.some.injEq, Prod.mk.injEq] at hb; obtain ⟨rfl, rfl, rfl⟩ := hb; exact .sl h1 h2 h3
  | _ => simp [slBlk] at hb
theorem lenA_ok {φ : Phi} {x : AV} {y : Value} (h : VR φ x y) {n : Nat} (hn : lenA x = some n) : ∃ A c, y = .slice A n c := by
  cases h with
  | v y =>
    cases y <;> simp only [lenA, slLen, Option.some.injEq] at hn <;> first | cases hn | skip
    exact ⟨_, _, rfl⟩
  | sl _ _ _ => simp only [lenA, slLen, Option.some.injEq] at hn; subst hn; exact ⟨_, _, rfl⟩
  | slc _ _ _ => simp only [lenA, Option.some.injEq] at hn; subst hn; exact ⟨_, _, rfl⟩
  | sl0 a => simp only [lenA, slLen, Option.some.injEq] at hn; subst hn; exact ⟨_, _, rfl⟩
  | _ => simp [lenA, slLen] at hn
theorem copy_run (hI : Inv W0 φ H W) {t t' e : TypeId} {i : TyI} (he : elt P t = some e) (ht : tyi P e = some i) {d s : AV} {yd ys : Value} (hd : VR φ d yd) (hs : VR φ s ys) {b o n m : Nat} (hb : slBlk d = some (b, o, n)) (hm : lenA s = some m) {B : Blk} (hB : H.blk b = some B)
    {new : List AV} (hnew : slCells W0 H i.size (min m n) s = some new) (hes : B.esz = i.size) (hon : o + n * i.size ≤ B.cells.length) (hlf : new.all leafA = true) (ty : TypeId) (hK : K (.v (.int .i64 (min m n : Nat))) (H.set b ⟨wr B.cells o new, B.esz⟩)) :
    ∃ y' W', (Builtin.copy_ #[t, t'] ty #[yd, ys]).run P W = .ok y' W' ∧ Good W0 φ K y' W' := by
  obtain ⟨dd, j, z, hdd, hj, hz, rfl⟩ := tyi_run ht
  simp only at hnew hes hon
  obtain ⟨A, mm, c, news, rfl, hnv, hnl, hmm, hfc⟩ := firstCells_run (P := P) hI hs hnew
  obtain ⟨A', c', hy⟩ := lenA_ok hs hm
  injection hy with _ hmeq _
  subst hmeq
  have hf := hfc W.drawn
  have hnews : news.length = min mm n * j.size := by rw [← hnv.length, hnl]
  have hd := slBlk_ok hd hb
  cases hd with
  | sl hp hnc hcap =>
    rename_i cd ad p
    obtain ⟨p0, hp0, k1, k2, k3, C, et, hC, k4, k5⟩ := hI.blks b B hB
    rw [hp] at hp0
    cases hp0
    have hle : min mm n * j.size ≤ n * j.size := Nat.mul_le_mul_right _ (Nat.min_le_right _ _)
    have hw := hI.wrAt hB hp hC o hnv (by omega)
    have hrun : (storeCells ad news).run P W = .ok () (W.setRow p.g (C.toList.take (p.base + o) ++ news ++ C.toList.drop (p.base + o + news.length)).toArray) := by
      rcases hcap with hc0 | ⟨rfl, hcl⟩
      · have h0 : news = [] := List.eq_nil_of_length_eq_zero (by rw [hnews, show n = 0 by omega]; simp)
        subst h0
        simp only [List.append_nil, List.length_nil, Nat.add_zero, List.take_append_drop, Array.toArray_toList, storeCells]
        rw [setRow_self W p.g C et (0, 0) hC]
        rfl
      · have hst := run_storeCells_at P p.g (p.base + o) et news 0 C W hC (by simp only [Nat.add_zero]; omega) (leafs_ok hnv hlf)
        simpa only [Nat.add_zero] using hst
    have e0 : Nat.min mm n = min mm n := rfl
    exact ⟨.int .i64 ((min mm n : Nat) : Int), _, by simp [Builtin.copy_, run_underlying (elt_run he), Builtin.lenOf, sizeOf_run hj, e0, hf, hrun, goInt], _, _, _, .v _, hw, Ext.refl _, hK⟩
theorem appendz_run (hI : Inv W0 φ H W) {e t t' : TypeId} (ht : elt P t = some e) (ht' : isInt P t' = true) {d : AV} {yd : Value} (hd : VR φ d yd) (m : Nat) (ty : TypeId) (ha : aappendz P W0 H e d m K) :
    ∃ y W', (Builtin.append_ #[t, t'] ty #[yd, .int .i64 m]).run P W = .ok y W' ∧ Good W0 φ K y W' := by
  unfold aappendz at ha
  split at ha
  case h_2 => exact ha.elim
  rename_i i b o n c hi
  split at ha
  case h_2 => exact ha.elim
  rename_i B hB
  obtain ⟨hsz, hby, hzl, he, hoc, hnc, hlim, hgt, ha⟩ := ha
  obtain ⟨D, j, z, hD, hj, hz, rfl⟩ := tyi_run hi
  simp only at hsz hby hzl he hoc hlim ha
  obtain ⟨k, hk⟩ : ∃ k, P.underlying t' = some (.int k) := by
    unfold isInt at ht'
    split at ht'
    · exact ⟨_, by assumption⟩
    · cases ht'
  have hon : o + n * j.size ≤ B.cells.length := Nat.le_trans (Nat.add_le_add_left (Nat.mul_le_mul_right _ hnc) _) hoc
  obtain ⟨p0, ovs, hp0, hov, hoc2⟩ := hI.reads hB o (n * j.size) hon
  cases hd with
  | slc hp hnc2 hcap =>
    rename_i ad p
    rw [hp] at hp0
    cases hp0
    have hol : ((B.cells.drop o).take (n * j.size)).length = n * j.size := by simp; omega
    have hovl : ovs.length = n * j.size := by rw [← hov.length, hol]
    have hzc : z.cells.size = j.size := by rw [← hzl, Array.length_toList]
    have hgrow := growslice_fits (need := n + m) (old := c) (bytes := j.bytes) (by omega) hlim
    have hmb : n + m ≤ (n + m) * j.bytes := Nat.le_mul_of_pos_right _ hby
    have hmm : m * j.bytes ≤ (n + m) * j.bytes := Nat.mul_le_mul_right _ (by omega)
    have hcapge := grownCap_ge W (n + m) c e
    have hz1 : (Builtin.zeroCells z.cells m).toList = (List.replicate m z.cells.toList).flatten := zeros_list z.cells m z.cells.size rfl
    have hzv : VRs φ (zerosA z.cells.toList m) (Builtin.zeroCells z.cells m).toList := by rw [hz1]; exact zerosA_ok _ _
    have hzs : (Builtin.zeroCells z.cells m).size = m * j.size := by rw [← Array.length_toList, ← hzv.length, zerosA_length, Array.length_toList, hzc]
    have hfo : ∀ dr, (Builtin.firstCells j.size n (.slice (some ad) n c)).run P { W with drawn := dr } = .ok ovs.toArray { W with drawn := dr } := by
      intro dr
      rcases hcap with hc0 | ⟨rfl, hcl⟩
      · have hn0 : n = 0 := by omega
        subst hn0
        have : ovs = [] := List.eq_nil_of_length_eq_zero (by rw [hovl, Nat.zero_mul])
        subst this
        simp [Builtin.firstCells, loadCells, loadCellsFrom]
      · have := run_loadCells_list (P := P) { W with drawn := dr } ⟨p0.g, p0.base + o, none⟩ ovs (fun q u hq => by rw [Addr.add_lit]; exact hoc2 q u hq)
        rw [hovl] at this
        simp only [Builtin.firstCells, this]
    have hcs : (ovs.toArray ++ Builtin.zeroCells z.cells m ++ Builtin.zeroCells z.cells (grownCap W (n + m) c e - (n + m))).size = grownCap W (n + m) c e * j.size := by
      simp only [Array.size_append, List.size_toArray, size_zeroCells, hzc, hzs, hovl, ← Nat.add_mul]
      congr 1
      omega
    have hnew2 := (hI.drawn (W.drawn + 1)).new (cells := (B.cells.drop o).take (n * j.size) ++ zerosA z.cells.toList m) j.size (C := ovs.toArray ++ Builtin.zeroCells z.cells m ++ Builtin.zeroCells z.cells (grownCap W (n + m) c e - (n + m))) (e := e)
      (by rw [hcs, List.length_append, hol, zerosA_length, Array.length_toList, hzc, ← Nat.add_mul]; exact Nat.mul_le_mul_right _ hcapge)
      (fun q v hq => by
        obtain ⟨y, hy, hv⟩ := (hov.append hzv).get q v hq
        refine ⟨y, ?_, hv⟩
        rw [← Array.getElem?_toList, Array.toList_append, Array.toList_append, List.getElem?_append_left]
        · exact hy
        · have := (List.getElem?_eq_some_iff.1 hy).1
          simpa using this)
    refine ⟨.slice (some ⟨W.heap.size, 0, none⟩) (n + m) (grownCap W (n + m) c e), _, ?_, _, _, _, .sl (updφ_at _ _ _) hcapge (.inr ⟨by simp, by simp only [hcs]; omega⟩), hnew2.1, hnew2.2, ha⟩
    have hw : IntKind.i64.wrap (m : Int) = m := by
      unfold IntKind.wrap
      simp [IntKind.bits, IntKind.signed]
      omega
    have hn : ¬ (n + m ≤ c) := by omega
    have h63' : ¬ (9223372036854775807 < ((n : Int) + (m : Int))) := by omega
    have h48' : ¬ (281474976710656 < Builtin.nextslicecap (n + m) c * j.bytes) := by omega
    have h48'' : ¬ (281474976710656 < (m : Int) * (j.bytes : Int)) := by
      have : (m : Int) * (j.bytes : Int) = ((m * j.bytes : Nat) : Int) := by simp
      rw [this]; omega
    have hm0 : ¬ (m = 0) := by omega
    have hs0 : ¬ (j.size = 0) := by omega
    have hms : ¬ (m * j.size = 0) := Nat.mul_ne_zero hm0 hs0
    have hneg : ¬ ((m : Int) < 0) := by omega
    have hf2 : (Builtin.firstCells j.size n (.slice (some ad) n c)).run P W.drew = .ok ovs.toArray W.drew := hfo (W.drawn + 1)
    simp [Builtin.append_, run_underlying (elt_run ht), run_underlying hk, sizeOf, typeInfo, zeroValue, hj, hz, asInt, asIntOf, hw, hn, h63', h48', h48'', hm0, hs0, hms, hneg, Question.forced, hf2, newRow, grownCap]
    try rfl
end Go.Proofs.Ythcjolappblieaa.Aw
