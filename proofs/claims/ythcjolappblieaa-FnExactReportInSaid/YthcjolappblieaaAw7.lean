/- The calculus 'Aw', part 7: one operation, whatever it is. -/
import Derived.Test.YthcjolappblieaaAw6
namespace Go.Proofs.Ythcjolappblieaa.Aw
open Go Go.RowKit
set_option linter.unusedVariables false
set_option linter.unusedSimpArgs false
set_option linter.unusedSectionVars false
set_option maxHeartbeats 1000000
variable {P : Program} {W0 W : World} {φ : Phi} {H : AH} {K : AV → AH → Prop} {e : Env}

theorem VR.ptr_addr {φ : Phi} {b o : Nat} {y : Value} (h : VR φ (.ptr b o) y) : ∃ p, φ b = some p ∧ y = .pointer (some ⟨p.g, p.base + o, none⟩) := by
  cases h with | ptr h => exact ⟨_, h, rfl⟩
theorem VR.v_eq {φ : Phi} {x y : Value} (h : VR φ (.v x) y) : y = x := by cases h; rfl


theorem elt_bind {t : TypeId} {i : TyI} (h : (elt P t).bind (tyi P) = some i) : ∃ el, elt P t = some el ∧ tyi P el = some i := by
  simpa [Option.bind_eq_some_iff] using h
theorem slLen_ok {φ : Phi} {x : AV} {y : Value} (h : VR φ x y) {n : Nat} (hn : slLen x = some n) : ∃ A c, y = .slice A n c := by
  cases h with
  | v y =>
    cases y <;> simp only [slLen, Option.some.injEq] at hn <;> first | cases hn | skip
    exact ⟨_, _, rfl⟩
  | sl _ _ _ => simp only [slLen, Option.some.injEq] at hn; subst hn; exact ⟨_, _, rfl⟩
  | sl0 a => simp only [slLen, Option.some.injEq] at hn; subst hn; exact ⟨_, _, rfl⟩
  | _ => simp [slLen] at hn
theorem builtin_ok (hI : Inv W0 φ H W) {b : Builtin} {ts : List TypeId} {xs : List AV} {ys : List Value} (hv : VRs φ xs ys) (ty : TypeId) (h : abuiltin P W0 b ts xs H K) (consts : Array Bool) :
    ∃ u W', (builtin b ts.toArray ty consts ys.toArray).run P W = .ok (.value u) W' ∧ Good W0 φ K u W' := by
  unfold abuiltin at h
  split at h
  · rename_i t s
    cases hv with
    | cons h1 h2 =>
      cases h2
      have := h1.v_eq
      subst this
      obtain ⟨hs, hk⟩ := h
      exact ⟨_, W, by simp [builtin, Builtin.len_, run_underlying (str_run hs), goInt], good_same hI (.v _) hk⟩
  · rename_i t x _
    cases hv with
    | cons h1 h2 =>
      cases h2
      obtain ⟨he, h⟩ := h
      obtain ⟨el, he⟩ := Option.isSome_iff_exists.1 he
      split at h
      · rename_i n hn
        obtain ⟨A, c, rfl⟩ := lenA_ok h1 hn
        exact ⟨_, W, by simp [builtin, Builtin.len_, run_underlying (elt_run he), goInt], good_same hI (.v _) h⟩
      · exact h.elim
  · rename_i t t' dst src
    cases hv with
    | cons h1 h2 =>
      cases h2 with
      | cons h2 h3 =>
        cases h3
        split at h
        · rename_i el el' he he'
          obtain ⟨y, W', hr, hg⟩ := append_run hI he he' h1 h2 ty h
          exact ⟨y, W', by simp [builtin, hr], hg⟩
        · rename_i el he he'
          split at h
          · rename_i m hi
            have := h2.v_eq
            subst this
            obtain ⟨h0, h⟩ := h
            obtain ⟨k, rfl⟩ := Int.eq_ofNat_of_zero_le h0
            obtain ⟨y, W', hr, hg⟩ := appendz_run hI he hi h1 k ty (by simpa using h)
            exact ⟨y, W', by simp [builtin, hr], hg⟩
          · exact h.elim
        · exact h.elim
  · rename_i t b o n c
    cases hv with
    | cons h1 h2 =>
      cases h2
      obtain ⟨he, h⟩ := h
      obtain ⟨el, he⟩ := Option.isSome_iff_exists.1 he
      cases h1 with
      | slc _ _ _ => exact ⟨_, W, by simp [builtin, Builtin.cap_, run_underlying (elt_run he), goInt], good_same hI (.v _) h⟩
  · rename_i t t' dst src
    cases hv with
    | cons h1 h2 =>
      cases h2 with
      | cons h2 h3 =>
        cases h3
        split at h
        · rename_i i b o n m hi hb hm
          split at h
          · rename_i B new hB hnew
            obtain ⟨el, he, hi⟩ := elt_bind hi
            obtain ⟨g1, g2, g3, g4⟩ := h
            obtain ⟨y, W', hr, hg⟩ := copy_run (t' := t') hI he hi h1 h2 hb hm hB hnew g1 g2 g3 ty g4
            exact ⟨y, W', by simp [builtin, hr], hg⟩
          · exact h.elim
        · exact h.elim
  · rename_i k a k' b
    cases hv with
    | cons h1 h2 =>
      cases h2 with
      | cons h2 h3 =>
        cases h3
        have e1 := h1.v_eq
        have e2 := h2.v_eq
        subst e1
        subst e2
        exact ⟨_, W, by simp [builtin, Builtin.min_, Builtin.min2], good_same hI (.v _) h⟩
  · rename_i k a k' b
    cases hv with
    | cons h1 h2 =>
      cases h2 with
      | cons h2 h3 =>
        cases h3
        have e1 := h1.v_eq
        have e2 := h2.v_eq
        subst e1
        subst e2
        exact ⟨_, W, by simp [builtin, Builtin.max_, Builtin.max2], good_same hI (.v _) h⟩
  · rename_i t x _
    cases hv with
    | cons h1 h2 =>
      cases h2
      split at h
      · rename_i i b o n hi hb
        split at h
        · rename_i B hB
          obtain ⟨el, he, hi⟩ := elt_bind hi
          obtain ⟨g1, g2, g3, g4, g5⟩ := h
          obtain ⟨y, W', hr, hg⟩ := clear_run hI he hi (slBlk_ok h1 hb) hB g1 g2 g3 g4 ty g5
          exact ⟨y, W', by simp [builtin, hr], hg⟩
        · exact h.elim
      · exact h.elim
  · exact h.elim

theorem rdArr_ok {φ : Phi} {l : List AV} {ys : List Value} (hv : VRs φ l ys) {t : TypeId} {i : TyI} (hi : tyi P t = some i) (ha : i.agg = true ∨ i.size = 1) (off : Nat) (ho : off + i.size ≤ l.length) (W : World) :
    ∃ u, (part t ys.toArray off).run P W = .ok u W ∧ VR φ (mkv i.agg ((l.drop off).take i.size)) u := by
  obtain ⟨d, j, z, hd, hj, hz, rfl⟩ := tyi_run hi
  simp only at ha ho
  have hlen := hv.length
  by_cases hag : isAggD d = true
  · refine ⟨.agg ((ys.drop off).take j.size).toArray, ?_, ?_⟩
    · simp only [part, Sem.run_bind, isAgg_run hd, hag, if_true, sizeOf_run hj, Result.andThen_ok, Sem.run_pure]
      congr 2
      apply Array.ext'
      simp [List.take_drop, Nat.add_comm]
    · simp only [mkv, hag, if_true]
      exact .agg ((hv.drop off).take j.size)
  · have h1 : j.size = 1 := by
      rcases ha with ha | ha
      · exact absurd ha hag
      · exact ha
    simp only [Bool.not_eq_true] at hag
    have hlt : off < ys.length := by omega
    refine ⟨ys[off], ?_, ?_⟩
    · simp only [part, Sem.run_bind, isAgg_run hd, hag, Bool.false_eq_true, if_false, Result.andThen_ok]
      simp [hlt]
    · obtain ⟨y, hy, hvv⟩ := hv.get off l[off] (List.getElem?_eq_getElem (by omega))
      rw [List.getElem?_eq_getElem hlt] at hy
      cases hy
      have : (l.drop off).take 1 = [l[off]] := by
        rw [List.drop_eq_getElem_cons (by omega)]
        rfl
      simp only [mkv, hag, h1, this, Bool.false_eq_true, if_false, List.headD_cons]
      exact hvv

theorem ints_ok {φ : Phi} : {l : List AV} → {ys : List Value} → VRs φ l ys → {ns : List Int} → intsOf l = some ns → ys = ns.map (Value.int .u8)
  | _, _, .nil, ns, h => by simp [intsOf] at h; subst h; rfl
  | _, _, .cons (a := a) (y := y) (l := l) (ys := ys) h1 h2, ns, h => by
    unfold intsOf at h
    split at h
    · rename_i heq; cases heq
    · rename_i n l' heq
      injection heq with e1 e2
      subst e1
      subst e2
      simp only [Option.map_eq_some_iff] at h
      obtain ⟨ms, hm, rfl⟩ := h
      rw [ints_ok h2 hm, h1.v_eq]
      rfl
    · cases h

theorem aop_ok (hI : Inv W0 φ H W) {ρ : Operand → Value} (hρ : VE φ e ρ) {o : Oper} (h : aop P W0 o.op e H K) : OpOk P W0 φ K ρ o W := by
  obtain ⟨dst, op, ty, pos, after, guard⟩ := o
  cases op with
  | move x => exact .val rfl (good_same hI (hρ x) h)
  | assign x => exact .val rfl (good_same hI (hρ x) h)
  | pick c a b =>
    simp only [aop] at h
    split at h
    · rename_i t hc
      have h1 := hρ c
      rw [hc] at h1
      have h2 := h1.v_eq
      refine .val (y := if t = true then ρ a else ρ b) (W' := W) ?_ ?_
      · simp [execOp, h2, asBool]
      · refine good_same hI ?_ h
        split
        · exact hρ a
        · exact hρ b
    · exact h.elim
  | alloc t =>
    simp only [aop] at h
    split at h
    · rename_i i hi
      obtain ⟨d, j, z, hd, hj, hz, rfl⟩ := tyi_run hi
      obtain ⟨hI', hx⟩ := good_new hI (VRs.vs z.cells.toList) z.cells.toList.length t (C := z.cells) (by simp)
      refine .ins (s := Instr.alloc t true (.tuple #[])) rfl (y := .pointer (some ⟨W.heap.size, 0, none⟩)) (W' := _) ?_ ⟨_, _, _, .ptr (updφ_at _ _ _), hI', hx, h⟩
      simp [Instr.alloc, zero_run hj hz, newVar, newRow]
      try rfl
    · exact h.elim
  | box t x =>
    simp only [aop] at h
    split at h
    · rename_i cs hcs
      have hv := cells_ok (hρ x) hcs
      obtain ⟨hI', hx⟩ := good_new hI hv cs.length t (C := (ρ x).cells) (by simp)
      refine .ins (s := Instr.box t (ρ x)) rfl (y := .pointer (some ⟨W.heap.size, 0, none⟩)) (W' := _) ?_ ⟨_, _, _, .ptr (updφ_at _ _ _), hI', hx, h⟩
      simp [Instr.box, newVar, newRow]
      try rfl
    · exact h.elim
  | build t parts =>
    simp only [aop] at h
    split at h
    · rename_i i pl hi hpl
      split at h
      · rename_i cs hcs
        obtain ⟨p1, p2⟩ := parts_ok hρ parts
        obtain ⟨y, hr, hv⟩ := build_run (qs := parts.map fun (i, x) => (i, ρ x)) hI hi hpl p1 p2 hcs
        exact .ins rfl hr (good_same hI hv h)
      · exact h.elim
    · rename_i i hi hpl
      split at h
      · rename_i j hj
        obtain ⟨⟨n, el⟩, ha, hj⟩ := Option.bind_eq_some_iff.1 hj
        split at h
        · rename_i cs hcs
          obtain ⟨p1, p2⟩ := parts_ok hρ parts
          obtain ⟨y, hr, hv⟩ := buildArr_run (qs := parts.map fun (i, x) => (i, ρ x)) hI hi ha hj p1 p2 hcs
          exact .ins rfl hr (good_same hI hv h)
        · exact h.elim
      · exact h.elim
    · exact h.elim
  | buildSlice t len parts =>
    simp only [aop] at h
    split at h
    · rename_i i hi
      obtain ⟨el, he, hi⟩ := elt_bind hi
      obtain ⟨g1, g2, h⟩ := h
      split at h
      · rename_i cs hcs
        obtain ⟨p1, p2⟩ := parts_ok hρ parts
        obtain ⟨y, W', hr, hg⟩ := buildSlice_run (qs := parts.map fun (i, x) => (i, ρ x)) hI he hi len g1 g2 p1 p2 hcs h
        exact .ins rfl hr hg
      · exact h.elim
    · exact h.elim
  | load t a =>
    simp only [aop] at h
    split at h
    · rename_i i hi
      obtain ⟨ha, h⟩ := h
      split at h
      · rename_i cs hcs
        obtain ⟨u, hr, hv⟩ := load_run hI hi ha (hρ a) hcs
        exact .ins rfl hr (good_same hI hv h)
      · exact h.elim
    · exact h.elim
  | store t a x =>
    simp only [aop] at h
    split at h
    · rename_i i b o hi ha
      have h1 := hρ a
      rw [ha] at h1
      obtain ⟨W', hr, hg⟩ := store_run hI hi h1 (hρ x) h
      exact .inr (.inl ⟨W', by simp [execOp, hr], hg⟩)
    · exact h.elim
  | nilCheck x =>
    simp only [aop] at h
    have h1 := hρ x
    split at h
    · rename_i b o hx
      rw [hx] at h1
      obtain ⟨p, hp, hy⟩ := h1.ptr_addr
      refine .val (y := ρ x) (W' := W) ?_ (good_same hI h1 h)
      simp [execOp, hy]
    · rename_i a hx
      rw [hx] at h1
      have hy := h1.v_eq
      refine .val (y := ρ x) (W' := W) ?_ (good_same hI h1 h)
      simp [execOp, hy]
    · rename_i f c hx
      rw [hx] at h1
      refine .val (y := ρ x) (W' := W) ?_ (good_same hI h1 h)
      generalize hz : ρ x = z at h1
      cases h1
      simp [execOp, hz]
    · exact h.elim
  | binOp op t x y yt =>
    obtain ⟨u, hr, hg⟩ := binOp_ok hI hρ h
    exact .ins rfl hr hg
  | unOp op t x =>
    simp only [aop] at h
    split at h
    · rename_i a ha
      split at h
      · rename_i r hr
        have h1 := hρ x
        rw [ha] at h1
        exact .ins (s := Op.unary op (ρ x)) rfl (by rw [h1.v_eq]; exact aun_run hr W) (good_same hI (.v _) h)
      · exact h.elim
    · exact h.elim
  | convert src dst x =>
    simp only [aop] at h
    have h1 := hρ x
    split at h
    · rename_i k n hx
      rw [hx] at h1
      split at h
      · rename_i k' hk hs
        obtain ⟨d, hd⟩ := Option.isSome_iff_exists.1 hs
        refine .ins (s := convert src dst (ρ x)) rfl (W' := W) ?_ (good_same hI (.v _) h)
        rw [h1.v_eq]
        simp [convert, run_underlying hd, run_underlying (intKd_run hk), Conv.intToInt]
      · exact h.elim
    · rename_i s hx
      rw [hx] at h1
      split at h
      · rename_i hs
        simp only [Bool.and_eq_true] at hs
        refine .ins (s := convert src dst (ρ x)) rfl (W' := W) ?_ (good_same hI (.v _) h)
        rw [h1.v_eq]
        simp [convert, run_underlying (str_run hs.1), run_underlying (str_run hs.2)]
      · exact h.elim
    · rename_i b o n hx
      rw [hx] at h1
      split at h
      · rename_i e' he hs
        obtain ⟨hk, h⟩ := h
        split at h
        · rename_i l hl
          simp only [Option.bind_eq_some_iff] at hl
          obtain ⟨cs, hcs, hl⟩ := hl
          obtain ⟨A, m, c, ys, hy, hv, hlen, hnm, h0, hc⟩ := hI.slc h1 hcs
          have hys := ints_ok hv hl
          refine .ins (s := convert src dst (ρ x)) rfl (W' := W) ?_ (good_same hI (.v _) h)
          generalize ρ x = z at h1 hy ⊢
          cases h1 with
          | sl hp hnc hcap =>
            rename_i cc ad p
            injection hy with e1 e2 e3
            subst e1
            subst e2
            have hlen2 : l.length = n := by
              have := hv.length
              rw [hys, List.length_map] at this
              omega
            rcases hcap with hc0 | ⟨rfl, _⟩
            · have hn0 : n = 0 := by omega
              subst hn0
              obtain rfl : l = [] := List.eq_nil_of_length_eq_zero hlen2
              have := run_bytesToString (P := P) W ad 0 cc [] (by simp [loadCells, loadCellsFrom])
              simp only [List.foldl_nil] at this
              rw [run_convert_bytes_string W src dst e' _ 0 cc (elt_run he) (intKd_run hk) (str_run hs), this]
              rfl
            · exact run_convert_bytes_arg W src e' (elt_run he) (intKd_run hk) p.g (p.base + o) n cc l hlen2 (fun i hi => by
                have := hc _ rfl i (.int .u8 (l.getD i 0)) (by rw [hys]; simp [List.getD_eq_getElem?_getD, List.getElem?_eq_getElem (show i < l.length by omega)])
                rwa [Addr.add_lit] at this) dst (str_run hs)
        · exact h.elim
      · exact h.elim
    · rename_i n' c' hx
      rw [hx] at h1
      split at h
      · rename_i e' he hs
        obtain ⟨hk, h⟩ := h
        refine .ins (s := convert src dst (ρ x)) rfl (W' := W) ?_ (good_same hI (.v _) h)
        rw [h1.v_eq]
        simp [convert, run_underlying (elt_run he), run_underlying (str_run hs), run_underlying (intKd_run hk), Conv.bytesToString]
      · exact h.elim
    · exact h.elim
  | makeFunc fn first caps =>
    simp only [aop] at h
    split at h
    · rename_i f
      obtain ⟨g1, h⟩ := h
      have hfirst : first = #[] := Array.eq_empty_of_size_eq_zero g1
      subst hfirst
      refine .ins (s := Instr.makeFunc (.func f) ((#[] : Array Operand).map ρ) (caps.map ρ)) rfl (y := .func (.func f) #[] (caps.toList.map ρ).toArray) (W' := W) ?_ (good_same hI (.fn (hρ.list caps.toList)) h)
      have : (caps.toList.map ρ).toArray = caps.map ρ := by apply Array.ext'; simp
      simp [Instr.makeFunc, this]
    · exact h.elim
  | makeSlice t l c =>
    simp only [aop] at h
    split at h
    · rename_i i n m hi hl hc
      obtain ⟨el, he, hi⟩ := elt_bind hi
      obtain ⟨rfl, g1, g2, g3, g4, h⟩ := h
      have h1 := hρ l
      have h2 := hρ c
      rw [hl] at h1
      rw [hc] at h2
      obtain ⟨y, W', hr, hg⟩ := makeSlice_run hI he hi g1 g2 g3 g4 h
      exact .ins (s := Instr.makeSlice t (ρ l) (ρ c)) rfl (by rw [h1.v_eq, h2.v_eq]; exact hr) hg
    · exact h.elim
  | slice t x lo hi mx =>
    simp only [aop] at h
    have hb : ∀ o : Option Operand, (∀ a, o.map (ev e) = some a → ∃ b, o.map ρ = some b ∧ VR φ a b) ∧ (o.map (ev e) = none → o.map ρ = none) := by
      intro o
      cases o with
      | none => exact ⟨fun a ha => (by cases ha), fun _ => rfl⟩
      | some o => exact ⟨fun a ha => ⟨ρ o, rfl, by cases ha; exact hρ o⟩, fun ha => (by cases ha)⟩
    have h1 := hρ x
    split at h
    · rename_i s hx
      obtain ⟨g1, h⟩ := h
      rw [hx] at h1
      obtain ⟨u, hr, hg⟩ := slice_run hI h1 (hb lo).1 (hb lo).2 (hb hi).1 (hb hi).2 h (.inl ⟨⟨s, rfl⟩, g1⟩)
      exact .ins (s := Instr.sliceAt t (ρ x) (lo.map ρ) (hi.map ρ) none) rfl hr hg
    · rename_i hns
      split at h
      · rename_i i hi'
        obtain ⟨el, he, hi'⟩ := elt_bind hi'
        obtain ⟨d, jj, z, hd, hj, hz, rfl⟩ := tyi_run hi'
        obtain ⟨u, hr, hg⟩ := slice_run hI h1 (hb lo).1 (hb lo).2 (hb hi).1 (hb hi).2 h (.inr ⟨fun ⟨s, hs⟩ => hns s hs, el, jj, he, hj, rfl⟩)
        exact .ins (s := Instr.sliceAt t (ρ x) (lo.map ρ) (hi.map ρ) none) rfl hr hg
      · exact h.elim
    · rename_i m
      split at h
      · rename_i i hi'
        obtain ⟨el, he, hi'⟩ := elt_bind hi'
        obtain ⟨d, jj, z, hd, hj, hz, rfl⟩ := tyi_run hi'
        obtain ⟨u, hr, hg⟩ := slice3_run hI h1 (hb lo).1 (hb lo).2 (hb hi).1 (mx := some (ev e m)) (mx' := some (ρ m)) (fun a ha => ⟨_, rfl, by cases ha; exact hρ m⟩) h ⟨el, jj, he, hj, rfl⟩
        exact .ins (s := Instr.sliceAt t (ρ x) (lo.map ρ) (hi.map ρ) (some (ρ m))) rfl hr hg
      · exact h.elim
  | fieldAddr t x f =>
    simp only [aop] at h
    split at h
    · rename_i off ft hf
      obtain ⟨fs, g, hu, hg, rfl, rfl⟩ := fldt_run hf
      have h1 := hρ x
      split at h
      · rename_i i b o hi hx
        obtain ⟨d, j, z, hd, hj, hz, rfl⟩ := tyi_run hi
        obtain ⟨hs, h⟩ := h
        rw [hx] at h1
        obtain ⟨p, hp, hy⟩ := h1.ptr_addr
        refine .ins (s := Instr.fieldAt t (ρ x) f) rfl (y := .pointer (some ⟨p.g, p.base + (o + g.offset), none⟩)) (W' := W) ?_ (good_same hI (.ptr hp) h)
        simp only at hs
        simp [Instr.fieldAt, run_underlying hu, hg, hy, Instr.sureAddr, fieldPlace, sizeOf_run hj, hs, Addr.add_lit, Nat.add_assoc]
      · rename_i i a hi hx
        obtain ⟨d, j, z, hd, hj, hz, rfl⟩ := tyi_run hi
        obtain ⟨hs, h⟩ := h
        rw [hx] at h1
        refine .ins (s := Instr.fieldAt t (ρ x) f) rfl (W' := W) ?_ (good_same hI (.v _) h)
        simp only at hs
        rw [h1.v_eq]
        simp [Instr.fieldAt, run_underlying hu, hg, Instr.sureAddr, fieldPlace, sizeOf_run hj, hs]
      · exact h.elim
    · exact h.elim
  | field t x f =>
    simp only [aop] at h
    split at h
    · rename_i off ft hf
      obtain ⟨fs, g, hu, hg, rfl, rfl⟩ := fldt_run hf
      have h1 := hρ x
      split at h
      · rename_i i l hi hx
        obtain ⟨g1, g2, h⟩ := h
        rw [hx] at h1
        generalize hz : ρ x = z at h1
        cases h1 with
        | agg h1 =>
          rename_i ys
          obtain ⟨u, hr, hv⟩ := rdArr_ok h1 hi g2 g.offset g1 W
          refine .ins (s := Instr.field t (ρ x) f) rfl (W' := W) ?_ (good_same hI hv h)
          rw [hz]
          simp [Instr.field, run_underlying hu, hg, asAgg, hr]
      · exact h.elim
    · exact h.elim
  | indexAddr t x ix =>
    simp only [aop] at h
    split at h
    · rename_i n el ha
      have hu : P.underlying t = some (.array n el) := by
        unfold arrt at ha
        split at ha
        · rename_i n' e' hu; simp at ha; obtain ⟨rfl, rfl⟩ := ha; exact hu
        · cases ha
      have h1 := hρ x
      have h2 := hρ ix
      split at h
      · rename_i i b o k j hi hx hix
        obtain ⟨g1, g2, h⟩ := h
        obtain ⟨d, jj, z, hd, hj, hz, rfl⟩ := tyi_run hi
        rw [hx] at h1
        rw [hix] at h2
        generalize hz' : ρ x = zz at h1
        cases h1 with
        | ptr hp =>
          rename_i p
          refine .ins (s := Instr.indexAt t (ρ x) (ρ ix)) rfl (y := .pointer (some ⟨p.g, p.base + (o + j.toNat * jj.size), none⟩)) (W' := W) ?_ (good_same hI (.ptr hp) h)
          rw [h2.v_eq, hz']
          simp [Instr.indexAt, Instr.sureAddr, asAddr, run_underlying hu, asIntOf, g1, g2, sizeOf_run hj, Addr.add_lit, Nat.add_assoc]
      · rename_i i a k j hi hx hix
        obtain ⟨g1, g2, h⟩ := h
        obtain ⟨d, jj, z, hd, hj, hz, rfl⟩ := tyi_run hi
        rw [hx] at h1
        rw [hix] at h2
        refine .ins (s := Instr.indexAt t (ρ x) (ρ ix)) rfl (W' := W) ?_ (good_same hI (.v _) h)
        rw [h1.v_eq, h2.v_eq]
        simp [Instr.indexAt, Instr.sureAddr, asAddr, run_underlying hu, asIntOf, g1, g2, sizeOf_run hj]
      · exact h.elim
    split at h
    · rename_i i b o n k j hi hx hix
      obtain ⟨el, he, hi⟩ := elt_bind hi
      obtain ⟨g1, g2, g3, h⟩ := h
      obtain ⟨d, jj, z, hd, hj, hz, rfl⟩ := tyi_run hi
      have h1 := hρ x
      have h2 := hρ ix
      rw [hx] at h1
      rw [hix] at h2
      split at g3
      · rename_i B hB
        obtain ⟨p0, hp0, k1, k2, k3, C, et, hC, k4, k5⟩ := hI.blks b B hB
        generalize hz' : ρ x = zz at h1
        cases h1 with
        | sl hp hnc hcap =>
          rename_i cc ad p
          rcases hcap with hc0 | ⟨rfl, _⟩
          · omega
          refine .ins (s := Instr.indexAt t (ρ x) (ρ ix)) rfl (y := .pointer (some ⟨p.g, p.base + (o + j.toNat * jj.size), none⟩)) (W' := W) ?_ (good_same hI (.ptr hp) h)
          rw [h2.v_eq, hz']
          simp [Instr.indexAt, run_underlying (elt_run he), asIntOf, g1, g2, sizeOf_run hj, Addr.add_lit, Nat.add_assoc]
      · exact g3.elim
    · rename_i i b o n c' k j hi hx hix
      obtain ⟨el, he, hi⟩ := elt_bind hi
      obtain ⟨g1, g2, g3, h⟩ := h
      obtain ⟨d, jj, z, hd, hj, hz, rfl⟩ := tyi_run hi
      have h1 := hρ x
      have h2 := hρ ix
      rw [hx] at h1
      rw [hix] at h2
      split at g3
      · rename_i B hB
        obtain ⟨p0, hp0, k1, k2, k3, C, et, hC, k4, k5⟩ := hI.blks b B hB
        generalize hz' : ρ x = zz at h1
        cases h1 with
        | slc hp hnc hcap =>
          rename_i ad p
          rcases hcap with hc0 | ⟨rfl, _⟩
          · omega
          refine .ins (s := Instr.indexAt t (ρ x) (ρ ix)) rfl (y := .pointer (some ⟨p.g, p.base + (o + j.toNat * jj.size), none⟩)) (W' := W) ?_ (good_same hI (.ptr hp) h)
          rw [h2.v_eq, hz']
          simp [Instr.indexAt, run_underlying (elt_run he), asIntOf, g1, g2, sizeOf_run hj, Addr.add_lit, Nat.add_assoc]
      · exact g3.elim
    · rename_i i a n c k j hi hx hix
      obtain ⟨el, he, hi⟩ := elt_bind hi
      obtain ⟨g1, g2, h⟩ := h
      obtain ⟨d, jj, z, hd, hj, hz, rfl⟩ := tyi_run hi
      have h1 := hρ x
      have h2 := hρ ix
      rw [hx] at h1
      rw [hix] at h2
      refine .ins (s := Instr.indexAt t (ρ x) (ρ ix)) rfl (W' := W) ?_ (good_same hI (.v _) h)
      rw [h1.v_eq, h2.v_eq]
      simp [Instr.indexAt, run_underlying (elt_run he), asIntOf, g1, g2, sizeOf_run hj]
    · exact h.elim
  | index t x ix =>
    simp only [aop] at h
    have h1 := hρ x
    have h2 := hρ ix
    split at h
    · rename_i s k j hx hix
      rw [hx] at h1
      rw [hix] at h2
      obtain ⟨g1, g2, b, g3, h⟩ := h
      refine .ins (s := Instr.index t (ρ x) (ρ ix)) rfl (W' := W) ?_ (good_same hI (.v _) h)
      rw [h1.v_eq, h2.v_eq]
      simp [Instr.index, run_underlying (str_run g1), asIntOf, g2, g3]
    · rename_i l k j hx hix
      rw [hx] at h1
      rw [hix] at h2
      split at h
      · rename_i n el hu
        split at h
        · rename_i i hi
          obtain ⟨g1, g2, g3, g4, h⟩ := h
          obtain ⟨d, jj, z, hd, hj, hz, rfl⟩ := tyi_run hi
          simp only at g3 g4 h
          generalize hz' : ρ x = zz at h1
          cases h1 with
          | agg h1 =>
            rename_i ys
            have hle : j.toNat * jj.size + jj.size ≤ l.length := by
              have : (j.toNat + 1) * jj.size ≤ n * jj.size := Nat.mul_le_mul_right _ (by omega)
              rw [Nat.add_mul] at this
              omega
            obtain ⟨u, hr, hv⟩ := rdArr_ok h1 hi g4 (j.toNat * jj.size) hle W
            refine .ins (s := Instr.index t (ρ x) (ρ ix)) rfl (W' := W) ?_ (good_same hI hv h)
            rw [h2.v_eq, hz']
            simp [Instr.index, run_underlying hu, asIntOf, g1, g2, sizeOf_run hj, hr]
        · exact h.elim
      · exact h.elim
    · exact h.elim
  | extract x i =>
    simp only [aop] at h
    split at h
    · rename_i l hx
      split at h
      · rename_i a ha
        have h1 := hρ x
        rw [hx] at h1
        generalize hz' : ρ x = zz at h1
        cases h1 with
        | tup h1 =>
          rename_i ys
          obtain ⟨y, hy, hv⟩ := h1.get i a ha
          refine .ins (s := Instr.extract (ρ x) i) rfl (W' := W) ?_ (good_same hI hv h)
          rw [hz']
          simp [Instr.extract, hy]
      · exact h.elim
    · exact h.elim
  | call c =>
    simp only [aop] at h
    split at h
    · rename_i b hb
      have hv := hρ.list c.args.toList
      have hm : (c.args.toList.map ρ).toArray = c.args.map ρ := by apply Array.ext'; simp
      have key := fun consts => builtin_ok hI hv ty h consts
      rw [hm] at key
      have hq : c.argTypes.toList.toArray = c.argTypes := by simp
      rw [hq] at key
      left
      simp only [execOp, resolve, hb, Sem.run_bind, Sem.run_pure, Result.andThen_ok, invoke]
      exact key _
    · rename_i f hb
      split at h
      · rename_i g caps hf
        have h1 := hρ f
        rw [hf] at h1
        generalize hz' : ρ f = zz at h1
        cases h1 with
        | fn h1 =>
          rename_i ys
          refine callG_ok hI ((hρ.list c.args.toList).append h1) h fun W => ?_
          simp only [execOp, resolve, hb, hz', Deferred.ofValue, Sem.run_bind, Sem.run_pure, Result.andThen_ok, invoke]
          congr 2
          simp
      · exact h.elim
    · exact h.elim
  | _ => exact h.elim
end Go.Proofs.Ythcjolappblieaa.Aw
