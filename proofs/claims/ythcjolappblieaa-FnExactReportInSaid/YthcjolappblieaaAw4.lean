/- The calculus 'Aw', part 4: each operation, held against the machine; the theorem of one operation. -/
import Derived.Test.YthcjolappblieaaAw3
namespace Go.Proofs.Ythcjolappblieaa.Aw
open Go Go.RowKit
set_option linter.unusedVariables false
set_option linter.unusedSimpArgs false
set_option linter.unusedSectionVars false
variable {P : Program} {W0 W : World} {φ : Phi} {H : AH} {K : AV → AH → Prop}

theorem str_run {t : TypeId} (h : isStr P t = true) : P.underlying t = some .string := by
  unfold isStr at h
  split at h
  · assumption
  · cases h
theorem intKd_run {t : TypeId} {k : IntKind} (h : intKd P t = some k) : P.underlying t = some (.int k) := by
  unfold intKd at h
  split at h
  · rename_i hu; cases h; exact hu
  · cases h
theorem fldt_run {t : TypeId} {f off : Nat} {ft : TypeId} (h : fldt P t f = some (off, ft)) : ∃ fs g, P.underlying t = some (.struct fs) ∧ fs[f]? = some g ∧ g.offset = off ∧ g.type = ft := by
  unfold fldt at h
  split at h
  · rename_i fs hu
    simp only [Option.map_eq_some_iff, Prod.mk.injEq] at h
    obtain ⟨g, hg, h1, h2⟩ := h
    exact ⟨fs, g, hu, hg, h1, h2⟩
  · cases h

/-- Operators on plain values. -/
theorem abin_run {op : BinOp} {a b r : Value} (h : abin op a b = some r) (t : TypeId) (x y : Operand) (W : World) :
    (do eqGuard op t x y a b; binOp op t a b : Sem Value).run P W = .ok r W := by
  unfold abin at h
  split at h
  · rename_i k a k' b
    simp only [Sem.run_bind, eqGuard_at_int, Sem.run_pure, Result.andThen_ok]
    cases op <;> simp only at h
    case shl => split at h <;> cases h; rename_i hb; simp [binOp, Op.shift, Int.not_lt.2 hb]
    case shr => split at h <;> cases h; rename_i hb; simp [binOp, Op.shift, Int.not_lt.2 hb]
    case quo => split at h <;> cases h; rename_i hb; obtain ⟨rfl, hb⟩ := hb; simp [binOp, Op.intDiv, hb]
    case rem => split at h <;> cases h; rename_i hb; obtain ⟨rfl, hb⟩ := hb; simp [binOp, Op.intDiv, hb]
    all_goals (split at h <;> cases h; rename_i hb; subst hb; simp [binOp, Op.intArith, Op.intCmp, intBits_and, intBits_or, intBits_xor, intBits_andNot])
  · rename_i a b
    simp only [Sem.run_bind, eqGuard_at_string, Sem.run_pure, Result.andThen_ok]
    cases op <;> simp only at h
    case add =>
      split at h <;> cases h
      rename_i hb
      have : ¬ ((9223372036854775807 : Int) < (a.size : Int) + (b.size : Int)) := by omega
      simp [binOp, Op.stringOp, this]
    all_goals first | (cases h; simp [binOp, Op.stringOp]; done) | cases h
  · cases h
theorem aun_run {op : UnOp} {a r : Value} (h : aun op a = some r) (W : World) : (Op.unary op a).run P W = .ok r W := by
  unfold aun at h
  split at h
  · cases op <;> simp only at h <;> first | (cases h; simp [Op.unary, Op.intArith]; done) | cases h
  · cases op <;> simp only at h <;> first | (cases h; simp [Op.unary]; done) | cases h
  · cases h

theorem fill_run {φ : Phi} (place : Nat → Option (Nat × Nat)) (pl : List (Nat × Nat)) (hp : ∀ i, place i = pl[i]?) :
    ∀ (ps : List (Nat × AV)) (qs : List (Nat × Value)) (cs out : List AV) (ys : List Value), ps.map (·.1) = qs.map (·.1) → VRs φ (ps.map (·.2)) (qs.map (·.2)) → VRs φ cs ys → fillA pl cs ps = some out →
      ∃ zs, Instr.fill place ys.toArray qs = some zs.toArray ∧ VRs φ out zs := by
  intro ps
  induction ps with
  | nil =>
    intro qs cs out ys h1 h2 h3 h4
    cases qs with
    | nil => simp [fillA] at h4; subst h4; exact ⟨ys, rfl, h3⟩
    | cons q qs => simp at h1
  | cons p ps ih =>
    intro qs cs out ys h1 h2 h3 h4
    cases qs with
    | nil => simp at h1
    | cons q qs =>
      obtain ⟨i, x⟩ := p
      obtain ⟨i', y⟩ := q
      simp only [List.map_cons, List.cons.injEq] at h1
      obtain ⟨rfl, h1⟩ := h1
      simp only [List.map_cons] at h2
      cases h2 with
      | cons hx h2 =>
        simp only [fillA] at h4
        split at h4
        case h_2 => cases h4
        rename_i off size xs hpl hxs
        split at h4
        case isFalse => cases h4
        rename_i hsz
        obtain ⟨hs1, hs2⟩ := hsz
        have hv := cells_ok hx hxs
        have hl := hv.length
        have hl3 := h3.length
        have hys : y.cells.size = size := by rw [← Array.length_toList, ← hl, hs1]
        have hstep : y.cells.zipIdx.foldl (fun cs (c, j) => cs.setIfInBounds (off + j) c) ys.toArray = (ys.take off ++ y.cells.toList ++ ys.drop (off + y.cells.toList.length)).toArray := by
          rw [← Array.foldl_toList, Array.toList_zipIdx]
          have key : ∀ (l : List Value) (j : Nat) (zs : List Value), off + j + l.length ≤ zs.length →
              (l.zipIdx j).foldl (fun cs (c, j) => cs.setIfInBounds (off + j) c) zs.toArray = (zs.take (off + j) ++ l ++ zs.drop (off + j + l.length)).toArray := by
            intro l
            induction l with
            | nil => intro j zs h; simp
            | cons c l ih =>
              intro j zs h
              simp only [List.zipIdx_cons, List.foldl_cons, List.setIfInBounds_toArray]
              rw [ih (j + 1) _ (by simp at h ⊢; omega)]
              congr 1
              apply List.ext_getElem?
              intro m
              simp only [List.length_cons] at h
              simp only [List.getElem?_append, List.length_append, List.length_take, List.length_set, List.length_cons, List.getElem?_take, List.getElem?_drop, List.getElem?_set, List.getElem?_cons]
              have e1 : min (off + (j + 1)) zs.length = off + j + 1 := by omega
              have e2 : min (off + j) zs.length = off + j := by omega
              rw [e1, e2]
              by_cases c1 : m < off + j
              · rw [if_pos (by omega), if_pos (by omega), if_pos (by omega), if_neg (by omega), if_pos (by omega), if_pos (by omega), if_pos c1]
              · by_cases c2 : m = off + j
                · subst c2
                  rw [if_pos (by omega), if_pos (by omega), if_pos (by omega), if_pos rfl, if_pos (by omega), if_pos (by omega), if_neg (by omega), if_pos (by omega)]
                · by_cases c3 : m < off + j + 1 + l.length
                  · rw [if_pos (by omega), if_neg (by omega), if_pos (by omega), if_neg (by omega), if_neg (by omega), show m - (off + j + 1) = m - (off + j) - 1 from by omega]
                  · rw [if_neg (by omega), if_neg (by omega), if_neg (by omega)]
                    try (congr 1; omega)
          simpa using key y.cells.toList 0 ys (by simp; omega)
        obtain ⟨zs, hz1, hz2⟩ := ih qs _ out (ys.take off ++ y.cells.toList ++ ys.drop (off + y.cells.toList.length)) h1 h2 (by
          unfold wr
          rw [hl]
          exact ((h3.take off).append hv).append (h3.drop _)) h4
        refine ⟨zs, ?_, hz2⟩
        simp only [Instr.fill]
        rw [hp, hpl]
        simp only
        rw [if_neg (by simp; omega), hstep]
        exact hz1

theorem fillS_eq (s n : Nat) (pl : List (Nat × Nat)) (hpl : ∀ i, i < n → pl[i]? = some (i * s, s)) :
    ∀ (ps : List (Nat × AV)) (cs out : List AV), cs.length = n * s → 0 < s → fillS s cs ps = some out → fillA pl cs ps = some out := by
  intro ps
  induction ps with
  | nil => intro cs out _ _ h; exact h
  | cons p ps ih =>
    intro cs out hl hs h
    obtain ⟨i, x⟩ := p
    simp only [fillS] at h
    simp only [fillA]
    split at h
    case h_2 => cases h
    rename_i xs hxs
    split at h
    case isFalse => cases h
    rename_i hc
    have hi : i < n := by
      rcases Nat.lt_or_ge i n with h1 | h1
      · exact h1
      · have : n * s ≤ i * s := Nat.mul_le_mul_right _ h1
        omega
    rw [hpl i hi, hxs]
    simp only
    rw [if_pos hc]
    exact ih _ _ (by rw [wr_length _ _ _ (by omega)]; exact hl) hs h

theorem zeros_list (z : Array Value) (n s : Nat) (hs : z.size = s) : ((Array.range (n * s)).map (z[· % z.size]!)).toList = (List.replicate n z.toList).flatten := by
  subst hs
  apply List.ext_getElem?
  intro i
  by_cases h : i < n * z.size
  · have hz : 0 < z.size := by
      rcases Nat.eq_zero_or_pos z.size with h0 | h0
      · rw [h0] at h; simp at h
      · exact h0
    have key : ∀ (n i : Nat), i < n * z.size → (List.replicate n z.toList).flatten[i]? = some z[i % z.size]! := by
      intro n
      induction n with
      | zero => intro i h; simp at h
      | succ n ih =>
        intro i h
        rw [List.replicate_succ, List.flatten_cons, List.getElem?_append]
        simp only [Array.length_toList]
        by_cases hi : i < z.size
        · rw [if_pos hi, Nat.mod_eq_of_lt hi]
          simp [hi]
        · rw [if_neg hi, ih (i - z.size) (by rw [Nat.add_mul] at h; omega)]
          congr 2
          rw [← Nat.mod_eq_sub_mod (by omega)]
    rw [key n i h]
    simp [h]
  · rw [List.getElem?_eq_none (by simpa using h), List.getElem?_eq_none]
    have : ∀ n, (List.replicate n z.toList).flatten.length = n * z.size := by
      intro n
      induction n with
      | zero => simp
      | succ n ih => rw [List.replicate_succ, List.flatten_cons, List.length_append, ih, Array.length_toList, Nat.add_mul]; omega
    rw [this]; omega
theorem zerosA_ok {φ : Phi} (z : List Value) (n : Nat) : VRs φ (zerosA z n) (List.replicate n z).flatten := by
  unfold zerosA
  induction n with
  | zero => exact .nil
  | succ n ih => rw [List.replicate_succ, List.replicate_succ, List.flatten_cons, List.flatten_cons]; exact (VRs.vs z).append ih
theorem zerosA_length (z : List Value) (n : Nat) : (zerosA z n).length = n * z.length := by
  unfold zerosA
  induction n with
  | zero => simp
  | succ n ih => rw [List.replicate_succ, List.flatten_cons, List.length_append, ih, List.length_map, Nat.add_mul]; omega

theorem places_run {t : TypeId} {pl : List (Nat × Nat)} (h : places P t = some pl) : ∃ fs, P.underlying t = some (.struct fs) ∧ ∀ W, (fs.mapM fun f => (do pure (f.offset, ← sizeOf f.type) : Sem (Nat × Nat))).run P W = .ok pl.toArray W := by
  unfold places at h
  split at h
  case h_2 => cases h
  rename_i fs hu
  refine ⟨fs, hu, fun W => ?_⟩
  have key : ∀ (l : List Field) (pl : List (Nat × Nat)), l.mapM (fun f => (P.info? f.type).map fun i => (f.offset, i.size)) = some pl → (l.mapM fun f => (do pure (f.offset, ← sizeOf f.type) : Sem (Nat × Nat))).run P W = .ok pl W := by
    intro l
    induction l with
    | nil => intro pl h; simp at h; subst h; rfl
    | cons f l ih =>
      intro pl h
      simp only [List.mapM_cons] at h ⊢
      cases h1 : P.info? f.type with
      | none => simp [h1] at h
      | some i =>
        cases h2 : l.mapM (fun f => (P.info? f.type).map fun i => (f.offset, i.size)) with
        | none => simp [h1, h2] at h
        | some xs =>
          simp [h1, h2] at h
          subst h
          simp only [Sem.run_bind, sizeOf_run h1, Result.andThen_ok, Sem.run_pure, ih xs h2]
  rw [Array.mapM_eq_mapM_toList]
  simp only [Sem.run_map, key fs.toList pl h, Result.andThen_ok]

theorem fillS_run {φ : Phi} (s : Nat) (ps : List (Nat × AV)) (qs : List (Nat × Value)) (cs out : List AV) (ys : List Value) (g1 : ps.map (·.1) = qs.map (·.1)) (g2 : VRs φ (ps.map (·.2)) (qs.map (·.2))) (g3 : VRs φ cs ys) (g4 : fillS s cs ps = some out) :
    ∃ zs, Instr.fill (fun i => some (i * s, s)) ys.toArray qs = some zs.toArray ∧ VRs φ out zs ∧ out.length = cs.length := by
  -- each index is below a bound of its own
  let n := (ps.map (·.1)).foldr max 0 + 1
  have hb : ∀ p ∈ ps, p.1 < n := by
    have : ∀ (l : List Nat) (x : Nat), x ∈ l → x ≤ l.foldr max 0 := by
      intro l
      induction l with
      | nil => intro x hx; cases hx
      | cons a l ih =>
        intro x hx
        rcases List.mem_cons.1 hx with rfl | hx
        · simp; omega
        · have := ih x hx
          simp only [List.foldr_cons]; omega
    intro p hp
    have := this (ps.map (·.1)) p.1 (List.mem_map_of_mem hp)
    omega
  have pl : ∃ pl : List (Nat × Nat), ∀ i, i < n → pl[i]? = some (i * s, s) := ⟨(List.range n).map fun i => (i * s, s), fun i hi => by simp [hi]⟩
  clear_value n
  obtain ⟨pl, hpl⟩ := pl
  induction ps generalizing qs cs ys with
  | nil =>
    cases qs with
    | nil => simp [fillS] at g4; subst g4; exact ⟨ys, rfl, g3, rfl⟩
    | cons q qs => simp at g1
  | cons p ps ih =>
    cases qs with
    | nil => simp at g1
    | cons q qs =>
      obtain ⟨i, x⟩ := p
      obtain ⟨i', y⟩ := q
      simp only [List.map_cons, List.cons.injEq] at g1
      obtain ⟨rfl, g1⟩ := g1
      simp only [List.map_cons] at g2
      cases g2 with
      | cons hx g2 =>
        simp only [fillS] at g4
        split at g4
        case h_2 => cases g4
        rename_i xs hxs
        split at g4
        case isFalse => cases g4
        rename_i hc
        have hfa : fillA pl cs [(i, x)] = some (wr cs (i * s) xs) := by
          simp only [fillA]
          rw [hpl i (hb (i, x) (List.mem_cons_self ..)), hxs]
          simp only
          rw [if_pos hc]
        obtain ⟨zs1, hz1, hz2⟩ := fill_run (φ := φ) (fun i => pl[i]?) pl (fun _ => rfl) [(i, x)] [(i, y)] cs _ ys rfl (.cons hx .nil) g3 hfa
        obtain ⟨zs, k1, k2, k3⟩ := ih qs (wr cs (i * s) xs) zs1 g1 g2 hz2 g4 (fun p hp => hb p (List.mem_cons_of_mem _ hp))
        refine ⟨zs, ?_, k2, by rw [k3, wr_length _ _ _ (by omega)]⟩
        simp only [Instr.fill, hpl i (hb (i, x) (List.mem_cons_self ..))] at hz1
        simp only [Instr.fill]
        split at hz1
        · cases hz1
        · rename_i hn
          rw [if_neg hn]
          simp only [Option.some.injEq] at hz1
          rw [hz1]
          exact k1
theorem buildArr_run (hI : Inv W0 φ H W) {t el : TypeId} {n : Nat} {i j : TyI} (ht : tyi P t = some i) (ha : arrt P t = some (n, el)) (hj : tyi P el = some j) {ps : List (Nat × AV)} {qs : Array (Nat × Value)} (h1 : ps.map (·.1) = qs.toList.map (·.1))
    (h2 : VRs φ (ps.map (·.2)) (qs.toList.map (·.2))) {cs : List AV} (hf : fillS j.size (i.zero.map .v) ps = some cs) : ∃ y, (Instr.build t qs).run P W = .ok y W ∧ VR φ (.agg cs) y := by
  obtain ⟨d, i', z, hd, hi, hz, rfl⟩ := tyi_run ht
  obtain ⟨d', j', z', hd', hj', hz', rfl⟩ := tyi_run hj
  have hu : P.underlying t = some (.array n el) := by
    unfold arrt at ha
    split at ha
    · rename_i n' e' hu; simp at ha; obtain ⟨rfl, rfl⟩ := ha; exact hu
    · cases ha
  obtain ⟨zs, hz1, hz2, _⟩ := fillS_run (φ := φ) j'.size ps qs.toList _ cs z.cells.toList h1 h2 (VRs.vs _) hf
  refine ⟨_, ?_, .agg hz2⟩
  have hz1' : Instr.fill (fun i => some (i * j'.size, j'.size)) z.cells qs.toList = some zs.toArray := by simpa using hz1
  simp only [Instr.build, Sem.run_bind, zero_run hi hz, run_underlying hu, sizeOf_run hj', Result.andThen_ok, hz1', Sem.run_pure]
theorem build_run (hI : Inv W0 φ H W) {t : TypeId} {i : TyI} {pl : List (Nat × Nat)} (ht : tyi P t = some i) (hp : places P t = some pl) {ps : List (Nat × AV)} {qs : Array (Nat × Value)} (h1 : ps.map (·.1) = qs.toList.map (·.1))
    (h2 : VRs φ (ps.map (·.2)) (qs.toList.map (·.2))) {cs : List AV} (hf : fillA pl (i.zero.map .v) ps = some cs) : ∃ y, (Instr.build t qs).run P W = .ok y W ∧ VR φ (.agg cs) y := by
  obtain ⟨d, j, z, hd, hj, hz, rfl⟩ := tyi_run ht
  obtain ⟨fs, hu, hm⟩ := places_run hp
  obtain ⟨zs, hz1, hz2⟩ := fill_run (φ := φ) (fun i => pl[i]?) pl (fun _ => rfl) ps qs.toList _ cs z.cells.toList h1 h2 (VRs.vs _) hf
  refine ⟨_, ?_, .agg hz2⟩
  have hz1' : Instr.fill (fun i => pl.toArray[i]?) z.cells qs.toList = some zs.toArray := by simpa using hz1
  simp only [Instr.build, Sem.run_bind, zero_run hj hz, run_underlying hu, hm, Result.andThen_ok, hz1', Sem.run_pure]
theorem buildSlice_run (hI : Inv W0 φ H W) {t e : TypeId} {i : TyI} (he : elt P t = some e) (ht : tyi P e = some i) (len : Nat) (hlen : len * i.size ≤ 16777216) (hzl : i.zero.length = i.size) {ps : List (Nat × AV)} {qs : Array (Nat × Value)}
    (h1 : ps.map (·.1) = qs.toList.map (·.1)) (h2 : VRs φ (ps.map (·.2)) (qs.toList.map (·.2))) {cs : List AV} (hf : fillS i.size (zerosA i.zero len) ps = some cs) (hK : K (.sl H.nxt 0 len) (H.new cs i.size)) :
    ∃ y W', (Instr.buildSlice t len qs).run P W = .ok y W' ∧ Good W0 φ K y W' := by
  obtain ⟨d, j, z, hd, hj, hz, rfl⟩ := tyi_run ht
  simp only at hlen hf hzl hK
  have hzs : z.cells.size = j.size := by rw [← hzl, Array.length_toList]
  have hbig : ¬ (len * j.size > 2 ^ 24) := by simp; omega
  -- the cells
  have hfill : ∃ zs : List Value, Instr.fill (fun i => some (i * j.size, j.size)) (List.replicate len z.cells.toList).flatten.toArray qs.toList = some zs.toArray ∧ VRs φ cs zs ∧ cs.length = len * j.size := by
    have hlz : (zerosA z.cells.toList len).length = len * j.size := by rw [zerosA_length, Array.length_toList, hzs]
    obtain ⟨zs, k1, k2, k3⟩ := fillS_run j.size ps qs.toList _ cs _ h1 h2 (zerosA_ok z.cells.toList len) hf
    exact ⟨zs, k1, k2, by rw [k3, hlz]⟩
  obtain ⟨zs, k1, k2, k3⟩ := hfill
  have hzl2 := k2.length
  obtain ⟨hI', hx⟩ := good_new hI k2 j.size e (C := zs.toArray) rfl
  refine ⟨.slice (some ⟨W.heap.size, 0, none⟩) len len, _, ?_, .sl H.nxt 0 len, _, _, .sl (updφ_at _ _ _) (Nat.le_refl _) (.inr ⟨by simp, by simp; omega⟩), hI', hx, hK⟩
  have hcells : (Array.range (len * j.size)).map (z.cells[· % z.cells.size]!) = (List.replicate len z.cells.toList).flatten.toArray := by
    apply Array.ext'
    rw [zeros_list z.cells len j.size hzs]
  by_cases h0 : len * j.size = 0
  · have hemp : (List.replicate len z.cells.toList).flatten = [] := by
      apply List.eq_nil_of_length_eq_zero
      have : ∀ n, (List.replicate n z.cells.toList).flatten.length = n * z.cells.size := by
        intro n
        induction n with
        | zero => simp
        | succ n ih => rw [List.replicate_succ, List.flatten_cons, List.length_append, ih, Array.length_toList, Nat.add_mul]; omega
      rw [this, hzs, h0]
    rw [hemp] at k1
    simp only [Instr.buildSlice, Sem.run_bind, run_underlying (elt_run he), Result.andThen_ok, sizeOf_run hj, hbig, if_false, h0, if_true, Sem.run_pure, Array.range_zero', Array.map_empty]
    simp [h0, k1, newRow]
  · simp only [Instr.buildSlice, Sem.run_bind, run_underlying (elt_run he), Result.andThen_ok, sizeOf_run hj, hbig, if_false, h0, zero_run hj hz, Sem.run_pure, hcells]
    simp [h0, k1, newRow, hcells]
end Go.Proofs.Ythcjolappblieaa.Aw
