/- The calculus 'Aw' at work, part 7: rules that a proof is stepped with. -/
import Derived.Test.YthcjolappblieaaAx5
import Derived.IntWalk
namespace Go.Proofs.Ythcjolappblieaa.Aw
open Go Go.RowKit
set_option linter.unusedVariables false
set_option linter.unusedSimpArgs false
set_option linter.unusedSectionVars false
variable {P : Program} {W0 : World}
attribute [go_sem] reduceIte Nat.reduceEqDiff Nat.reduceAdd Nat.reduceMul Nat.reduceLeDiff List.map_cons List.map_nil Option.map_some Option.map_none Bool.not_true Bool.not_false Option.isSome_some Option.bind_some bytes_eq_iff Nat.zero_add Nat.add_zero Nat.mul_one List.length_cons List.length_nil List.drop_succ_cons List.drop_zero List.take_succ_cons List.take_zero List.headD_cons true_and and_true List.append_nil List.nil_append List.cons_append decide_true decide_false Nat.add_assoc Nat.add_left_cancel_iff if_false if_true Int.toNat_natCast
attribute [go_sem] List.all_cons List.all_nil leafA_int leafA_bool leafA_string leafA_slice leafA_pointer leafA_sl leafA_slc leafA_sl0 leafA_ptr leafA_fn Bool.and_true Bool.true_and
theorem Sub.kill_new {H H' : AH} (hw : H.wf) (h : Sub H H') (cs : List AV) (s : Nat) : Sub H ((H'.new cs s).kill H'.nxt) := (h.new hw cs s).kill hw h.1
/-! ### More equations -/
section
variable {H : AH} {K : Kt}
def aconvI (d : Option IntKind) (s : Bool) (k : IntKind) (a : Int) (H : AH) [K : Kt] : Prop := match d, s with | some k', true => K.k (.v (.int k' (k'.wrap a))) H | _, _ => False
theorem conv_int' (src dst : TypeId) (k : IntKind) (a : Int) : aconv P W0 src dst (.v (.int k a)) H = aconvI (intKd P dst) (P.underlying src).isSome k a H := rfl
theorem aconvI_some (k' k : IntKind) (a : Int) : aconvI (some k') true k a H = K.k (.v (.int k' (k'.wrap a))) H := rfl
theorem isInt_kd (t : TypeId) : isInt P t = (intKd P t).isSome := by
  unfold isInt intKd
  cases P.underlying t with
  | none => rfl
  | some d => cases d <;> rfl
def aappZ (P : Program) (W0 : World) (H : AH) (e : TypeId) (z : Bool) (dst src : AV) [K : Kt] : Prop := match z, src with | true, .v (.int .i64 m) => 0 ≤ m ∧ aappendz P W0 H e dst m.toNat K.k | _, _ => False
theorem aappZ_int (e : TypeId) (dst : AV) (m : Int) : aappZ P W0 H e true dst (.v (.int .i64 m)) = (0 ≤ m ∧ aappendz P W0 H e dst m.toNat K.k) := rfl
def aappE (P : Program) (W0 : World) (H : AH) (a b : Option TypeId) (z : Bool) (dst src : AV) [K : Kt] : Prop := match a, b with | some e, some _ => aapp P W0 H (tyi P e) dst src | some e, none => aappZ P W0 H e z dst src | _, _ => False
theorem abi_append' (t t' : TypeId) (dst src : AV) : abi P W0 .append [t, t'] [dst, src] H = aappE P W0 H (elt P t) (elt P t') (intKd P t').isSome dst src := by
  simp only [abi, abuiltin, aappE, ← isInt_kd]
  cases elt P t <;> cases elt P t' <;> rfl
theorem aappE_some (e e' : TypeId) (z : Bool) (dst src : AV) : aappE P W0 H (some e) (some e') z dst src = aapp P W0 H (tyi P e) dst src := rfl
theorem aappE_none (e : TypeId) (z : Bool) (dst src : AV) : aappE P W0 H (some e) none z dst src = aappZ P W0 H e z dst src := rfl
end
/-- 'wr', to be reckoned out. -/
def xs' (l : List AV) (o : Nat) (cs : List AV) : List AV := wr l o cs
def fillS1 (s : Nat) (cs : List AV) (i : Nat) (xs : Option (List AV)) (rest : List (Nat × AV)) : Option (List AV) := match xs with
  | some xs => if xs.length = s ∧ i * s + s ≤ cs.length then fillS s (wr cs (i * s) xs) rest else none
  | none => none
theorem fillS_nil (s : Nat) (cs : List AV) : fillS s cs [] = some cs := rfl
theorem fillS_cons (s : Nat) (cs : List AV) (i : Nat) (x : AV) (rest : List (Nat × AV)) : fillS s cs ((i, x) :: rest) = fillS1 s cs i (cellsA x) rest := by simp only [fillS, fillS1]; cases cellsA x <;> rfl
theorem fillS1_some (s : Nat) (cs : List AV) (i : Nat) (xs : List AV) (rest : List (Nat × AV)) : fillS1 s cs i (some xs) rest = if xs.length = s ∧ i * s + s ≤ cs.length then fillS s (xs' cs (i * s) xs) rest else none := rfl
def fillA1 (pl : List (Nat × Nat)) (cs : List AV) (p : Option (Nat × Nat)) (xs : Option (List AV)) (rest : List (Nat × AV)) : Option (List AV) := match p, xs with
  | some (off, size), some xs => if xs.length = size ∧ off + size ≤ cs.length then fillA pl (wr cs off xs) rest else none
  | _, _ => none
theorem fillA_nil (pl : List (Nat × Nat)) (cs : List AV) : fillA pl cs [] = some cs := rfl
theorem fillA_cons (pl : List (Nat × Nat)) (cs : List AV) (i : Nat) (x : AV) (rest : List (Nat × AV)) : fillA pl cs ((i, x) :: rest) = fillA1 pl cs (pl[i]?) (cellsA x) rest := by simp only [fillA, fillA1]; cases pl[i]? <;> cases cellsA x <;> rfl
theorem fillA1_some (pl : List (Nat × Nat)) (cs : List AV) (off size : Nat) (xs : List AV) (rest : List (Nat × AV)) : fillA1 pl cs (some (off, size)) (some xs) rest = if xs.length = size ∧ off + size ≤ cs.length then fillA pl (xs' cs off xs) rest else none := rfl
theorem zerosA_zero (z : List Value) : zerosA z 0 = [] := rfl
theorem zerosA_succ (z : List Value) (n : Nat) : zerosA z (n + 1) = z.map AV.v ++ zerosA z n := by simp [zerosA, List.replicate_succ]
theorem xs'_eq (l : List AV) (o : Nat) (cs : List AV) : xs' l o cs = l.take o ++ (cs ++ l.drop (o + cs.length)) := by simp [xs', wr]
theorem set_new2 (H : AH) (cs ds : List AV) (s r : Nat) (B : Blk) : ((H.new cs s).new ds r).set H.nxt B = (H.new B.cells B.esz).new ds r := by
  simp only [AH.new, AH.set, AH.mk.injEq, and_true]
  funext b
  by_cases h : b = H.nxt
  · subst h; simp
  · simp [h]
theorem set_new3 (H : AH) (cs ds fs : List AV) (s r q : Nat) (B : Blk) : (((H.new cs s).new ds r).new fs q).set H.nxt B = ((H.new B.cells B.esz).new ds r).new fs q := by
  simp only [AH.new, AH.set, AH.mk.injEq, and_true]
  funext b
  by_cases h : b = H.nxt
  · subst h; simp; omega
  · simp [h]
theorem set_new_b (H : AH) (cs ds : List AV) (s r : Nat) (B : Blk) : ((H.new cs s).new ds r).set (H.nxt + 1) B = (H.new cs s).new B.cells B.esz := set_new (H.new cs s) ds r B
theorem set_new_c (H : AH) (cs ds fs : List AV) (s r q : Nat) (B : Blk) : (((H.new cs s).new ds r).new fs q).set (H.nxt + 2) B = ((H.new cs s).new ds r).new B.cells B.esz := set_new ((H.new cs s).new ds r) fs q B
theorem set_new_d (H : AH) (cs ds fs : List AV) (s r q : Nat) (B : Blk) : (((H.new cs s).new ds r).new fs q).set (H.nxt + 1) B = ((H.new cs s).new B.cells B.esz).new fs q := set_new2 (H.new cs s) ds fs r q B
attribute [go_sem] eq_self beq_self_eq_true set_new_b set_new_c set_new_d
attribute [go_sem] conv_int' aconvI_some abi_append' aappE_some aappE_none aappZ_int fillS_nil fillS_cons fillS1_some fillA_nil fillA_cons fillA1_some xs'_eq List.getElem?_cons_zero List.getElem?_cons_succ and_self
def aixsO (B : Option Blk) (s n b o : Nat) (j : Int) (H : AH) [K : Kt] : Prop := match B with | some B => 0 ≤ j ∧ j < n ∧ B.esz = s ∧ K.k (.ptr b (o + j.toNat * s)) H | none => False
theorem aixs_own {K : Kt} {H : AH} (g : Bool) (s b' b o n : Nat) (z : List Value) (k : IntKind) (j : Int) : aixs (K := K) (some ⟨g, s, b', z⟩) (.sl b o n) (.v (.int k j)) H = aixsO (H.blk b) s n b o j H := by
  simp only [aixs, aixsO]
  cases H.blk b with
  | none => simp
  | some B => rfl
theorem aixsO_some {K : Kt} {H : AH} (cs : List AV) (s' s n b o : Nat) (j : Int) : aixsO (K := K) (some ⟨cs, s'⟩) s n b o j H = (0 ≤ j ∧ j < n ∧ s' = s ∧ K.k (.ptr b (o + j.toNat * s)) H) := rfl
theorem wr_eq (l : List AV) (o : Nat) (cs : List AV) : wr l o cs = l.take o ++ (cs ++ l.drop (o + cs.length)) := by simp [wr]
attribute [go_sem] wr_eq aixs_own aixsO_some Int.reduceAdd Int.reduceSub Int.reduceMul Int.reduceToNat Int.reduceNeg Int.reduceLT Int.reduceLE Int.reduceEq zerosA_zero zerosA_succ Bool.false_eq_true set_new set_new2 set_new3
attribute [-go_sem] conv_int abi_append
theorem adraw_seq {ops : Array Oper} {Q : Env → AH → Prop} {e : Env} {H : AH} (hf : P.follows .mixedOrders = true) (h : okPlan ops ((List.range ops.size).map fun i => (i, [])) = true) (k : aops P W0 ops ops.toList Q e H) : adraw P W0 ops Q e H := by
  simp only [okPlan, Bool.and_eq_true] at h
  have hr : ((List.range ops.size).map fun i => (i, ([] : List Nat))).map (·.1) = List.range ops.size := by simp [List.map_map, Function.comp_def]
  rw [hr] at h
  refine ⟨hf, .inl ⟨List.range ops.size, h.1.1, by simp, ?_⟩⟩
  have go : ∀ (os : List Oper) (i : Nat) (hist : List Nat) (e : Env) (H : AH), (∀ k, os[k]? = ops[i + k]?) → planOk ops (befOf ops) hist ((List.range os.length).map fun k => (i + k, [])) = true → aops P W0 ops os Q e H → wl P W0 ops (befOf ops) Q hist ((List.range os.length).map (i + ·)) e H := by
    intro os
    induction os with
    | nil => intro i hist e H _ _ h; exact h
    | cons o os ih =>
      intro i hist e H hi hp h
      have hl : (List.range (o :: os).length).map (i + ·) = i :: (List.range os.length).map (i + 1 + ·) := by
        rw [List.length_cons, List.range_succ_eq_map, List.map_cons, List.map_map]
        congr 1
        apply List.map_congr_left
        intro k _
        simp; omega
      have hl2 : ((List.range (o :: os).length).map fun k => (i + k, ([] : List Nat))) = (i, []) :: (List.range os.length).map fun k => (i + 1 + k, []) := by
        rw [List.length_cons, List.range_succ_eq_map, List.map_cons, List.map_map]
        congr 1
        apply List.map_congr_left
        intro k _
        simp; omega
      have ho : ops[i]? = some o := by have := hi 0; simpa using this.symm
      have hk : ∀ k, os[k]? = ops[i + 1 + k]? := fun k => by have := hi (k + 1); simpa [Nat.add_assoc, Nat.add_comm 1 k] using this
      rw [hl2] at hp
      rw [hl]
      simp only [wl, ho]
      rw [aops_raw] at h
      simp only [planOk, getO_eq ho] at hp
      split
      · rename_i hq
        rw [if_pos hq] at hp
        exact raw1_mono (fun v H' hk' => ih _ _ _ _ hk hp hk') h
      · rename_i hq
        rw [if_neg hq] at hp
        simp only [Bool.and_eq_true, List.all_eq_true] at hp
        refine raw1_mono (fun v H' hk' => ⟨fun j hj hb => ?_, ih _ _ _ _ hk hp.2 hk'⟩) h
        have := hp.1 j hj
        simp [hb] at this
  have := go ops.toList 0 [] e H (fun k => by simp) (by simpa using h.2) k
  simpa using this
theorem back {σ : Type} {μ : σ → Nat} {m : Nat} {e : Env} {F : σ → List (Nat × AV)} {I : σ → Prop} (s' : σ) (hI : I s') (hμ : μ s' < m := by omega)
    (hf : frOk e (F s') := by first | (simp only [frOk, go_sem]; done) | (simp only [frOk, go_sem, Int.natCast_add, Int.natCast_one]; done) | (simp only [frOk, go_sem]; simp; done)) : ∃ s', μ s' < m ∧ frOk e (F s') ∧ I s' := ⟨s', hμ, hf, hI⟩
/-! ### Strings -/
def bt (s : ByteArray) (n : Nat) : Int := ((s[n]?).getD 0).toNat
theorem bt_le (s : ByteArray) (n : Nat) : 0 ≤ bt s n ∧ bt s n ≤ 255 := by
  unfold bt
  have := (s[n]?.getD 0).toNat_lt
  omega
/-! ### Bytes -/
section
variable {H : AH} {K : Kt}
def aconvS2 (ik : Option IntKind) (l : Option (List Int)) (H : AH) [K : Kt] : Prop := match ik, l with | some .u8, some l => K.k (.v (.string (strOfNums l))) H | _, _ => False
def aconvS (P : Program) (W0 : World) (el : Option TypeId) (d : Bool) (b o n : Nat) (H : AH) [K : Kt] : Prop := match el, d with | some e, true => aconvS2 (intKd P e) ((slCells W0 H 1 n (.sl b o n)).bind intsOf) H | _, _ => False
theorem conv_sl (src dst : TypeId) (b o n : Nat) : aconv P W0 src dst (.sl b o n) H = aconvS P W0 (elt P src) (isStr P dst) b o n H := by
  simp only [aconv, aconvS]
  cases elt P src with
  | none => rfl
  | some e =>
    cases isStr P dst with
    | false => rfl
    | true =>
      simp only [aconvS2]
      cases (slCells W0 H 1 n (.sl b o n)).bind intsOf with
      | none => cases intKd P e <;> simp
      | some l =>
        cases intKd P e with
        | none => simp
        | some k => cases k <;> simp
theorem aconvS_some (e : TypeId) (b o n : Nat) : aconvS P W0 (some e) true b o n H = aconvS2 (intKd P e) ((slCells W0 H 1 n (.sl b o n)).bind intsOf) H := rfl
theorem aconvS2_some (l : List Int) : aconvS2 (some .u8) (some l) H = K.k (.v (.string (strOfNums l))) H := rfl
theorem slCells_own (s n b o m : Nat) : slCells W0 H s n (.sl b o m) = if n ≤ m then (H.blk b).bind fun B => if B.esz = s ∧ o + n * s ≤ B.cells.length then some ((B.cells.drop o).take (n * s)) else none else none := rfl
theorem intsOf_nil : intsOf [] = some [] := rfl
theorem intsOf_cons (n : Int) (l : List AV) : intsOf (.v (.int .u8 n) :: l) = (intsOf l).map (n :: ·) := rfl
def aapp2 (B : Option Blk) (new : Option (List AV)) (s by' z : Nat) (b o n m : Nat) (H : AH) [K : Kt] : Prop := match B, new with
  | some B, some new => 0 < s ∧ 0 < by' ∧ z = s ∧ new.all leafA = true ∧ B.esz = s ∧ o + n * s ≤ B.cells.length ∧ (n + m) * by' ≤ 140737488355328 ∧ K.k (.sl H.nxt 0 (n + m)) ((H.kill b).new ((B.cells.drop o).take (n * s) ++ new) s)
  | _, _ => False
theorem aapp_sl (g : Bool) (s by' : Nat) (z : List Value) (b o n : Nat) (src : AV) : aapp P W0 H (some ⟨g, s, by', z⟩) (.sl b o n) src = match lenA src with | some m => aapp2 (H.blk b) (slCells W0 H s m src) s by' z.length b o n m H | none => False := by
  simp only [aapp]
  cases hs : lenA src with
  | none => rfl
  | some m =>
    simp only
    cases slCells W0 H s m src with
    | none => simp only [aapp2]; cases H.blk b <;> rfl
    | some new => cases H.blk b <;> simp [aapp2]
theorem aapp_own (g : Bool) (s by' : Nat) (z : List Value) (b o n b' o' m : Nat) : aapp P W0 H (some ⟨g, s, by', z⟩) (.sl b o n) (.sl b' o' m) = aapp2 (H.blk b) (slCells W0 H s m (.sl b' o' m)) s by' z.length b o n m H := aapp_sl g s by' z b o n _
theorem aapp2_some (cs new : List AV) (s' s by' z b o n m : Nat) : aapp2 (some ⟨cs, s'⟩) (some new) s by' z b o n m H = (0 < s ∧ 0 < by' ∧ z = s ∧ new.all leafA = true ∧ s' = s ∧ o + n * s ≤ cs.length ∧ (n + m) * by' ≤ 140737488355328 ∧ K.k (.sl H.nxt 0 (n + m)) ((H.kill b).new ((cs.drop o).take (n * s) ++ new) s)) := rfl
theorem bop_shl8 (t : TypeId) (a : Int) : abinop P .shl t (.v (.int .i64 a)) (.v (.int .u64 8)) H = K.k (.v (.int .i64 (IntKind.i64.wrap (a * 256)))) H := by simp [abinop, abin, IntKind.bits]
theorem bop_shr8 (t : TypeId) (a : Int) : abinop P .shr t (.v (.int .i64 a)) (.v (.int .u64 8)) H = K.k (.v (.int .i64 (a / 256))) H := by simp [abinop, abin, IntKind.bits, Int.fdiv_eq_ediv]
theorem bop_sleq (t : TypeId) (s u : ByteArray) : abinop P .leq t (.v (.string s)) (.v (.string u)) H = K.k (.v (.bool (Op.bytesLess s.toList u.toList || s.toList == u.toList))) H := by simp [abinop, abin]
theorem bop_sgtr (t : TypeId) (s u : ByteArray) : abinop P .gtr t (.v (.string s)) (.v (.string u)) H = K.k (.v (.bool (!(Op.bytesLess s.toList u.toList || s.toList == u.toList)))) H := by simp [abinop, abin]
attribute [go_sem] bop_shl8 bop_shr8 bop_sleq bop_sgtr
attribute [go_sem] conv_sl aconvS_some aconvS2_some intsOf_nil intsOf_cons aapp2_some Nat.le_refl ne_eq not_false_eq_true
theorem wrap_in (n : Int) (h0 : -9223372036854775808 ≤ n) (h1 : n ≤ 9223372036854775807) : IntKind.i64.wrap n = n := Go.IntWalk.i64_in n ⟨h0, h1⟩
theorem u8_small (n : Int) (h0 : 0 ≤ n) (h1 : n < 256) : IntKind.u8.wrap n = n := by simp [IntKind.wrap, IntKind.bits, IntKind.signed]; omega
theorem intsOf_map (l : List Int) : intsOf (l.map fun x => AV.v (.int .u8 x)) = some l := by
  induction l with
  | nil => rfl
  | cons x l ih => rw [List.map_cons, intsOf_cons, ih]; rfl
theorem slCells_whole {cs : List AV} {s n b : Nat} (hB : H.blk b = some ⟨cs, s⟩) (hn : cs.length = n * s) : slCells W0 H s n (.sl b 0 n) = some cs := by
  rw [slCells_own, if_pos (Nat.le_refl _), hB]
  simp [hn]
  rw [List.take_of_length_le (by omega)]
theorem slInts {l : List Int} {b : Nat} (hB : H.blk b = some ⟨l.map fun x => AV.v (.int .u8 x), 1⟩) : (slCells W0 H 1 l.length (.sl b 0 l.length)).bind intsOf = some l := by
  rw [slCells_whole hB (by simp), Option.bind_some, intsOf_map]
theorem slInts' {l : List Int} {b n : Nat} (hB : H.blk b = some ⟨l.map fun x => AV.v (.int .u8 x), 1⟩) (hn : l.length = n) : (slCells W0 H 1 n (.sl b 0 n)).bind intsOf = some l := by subst hn; exact slInts hB
theorem zerosA_one (v : Value) (n : Nat) : zerosA [v] n = List.replicate n (AV.v v) := by
  induction n with
  | zero => rfl
  | succ n ih => rw [zerosA_succ, ih, List.replicate_succ]; rfl
theorem app_rule {g : Bool} {s by' : Nat} {z : List Value} {b o n m : Nat} {src : AV} {cs new : List AV} (hB : H.blk b = some ⟨cs, s⟩) (hn : slCells W0 H s m src = some new) (hm : slLen src = some m) (hl : new.all leafA = true) (h1 : o + n * s ≤ cs.length) (h2 : (n + m) * by' ≤ 140737488355328)
    (k : K.k (.sl H.nxt 0 (n + m)) ((H.kill b).new ((cs.drop o).take (n * s) ++ new) s)) (h3 : 0 < s := by decide) (h4 : 0 < by' := by decide) (h5 : z.length = s := by rfl) : aapp (K := K) P W0 H (some ⟨g, s, by', z⟩) (.sl b o n) src := by
  rw [aapp_sl, lenA_of hm]
  simp only [hB, hn]
  exact ⟨h3, h4, h5, hl, rfl, h1, h2, k⟩
theorem u8_wrap (n : Int) : IntKind.u8.wrap n = n % 256 := by simp [IntKind.wrap, IntKind.bits, IntKind.signed]
theorem bt_nums (l : List Int) (i : Nat) (h : i < l.length) (h0 : ∀ x ∈ l, 0 ≤ x ∧ x < 256) : bt (strOfNums l) i = l[i] := by
  have hx := h0 l[i] (List.getElem_mem h)
  have hs : i < (strOfNums l).size := by rw [strOfNums_size]; exact h
  have hb : (strOfNums l)[i]? = some (UInt8.ofNat (l[i]).toNat) := by
    rw [show (strOfNums l)[i]? = some ((strOfNums l)[i]'hs) by simp [hs]]
    congr 1
    show (strOfNums l).data[i] = _
    simp [strOfNums]
  simp only [bt, hb, Option.getD_some, UInt8.toNat_ofNat']
  omega
end
/-! ### Choices, told as propositions -/
theorem acond_dec {p : Prop} {d : Decidable p} {K : K2} (ha : p → K.a) (hb : ¬ p → K.b) : acond (K := K) (.v (.bool (@decide p d))) := acond_split (fun h => ha (of_decide_eq_true h)) (fun h => hb (of_decide_eq_false h))
theorem acond_ndec {p : Prop} {d : Decidable p} {K : K2} (ha : ¬ p → K.a) (hb : p → K.b) : acond (K := K) (.v (.bool (!(@decide p d)))) := by
  by_cases h : p
  · simpa [acond, h] using hb h
  · simpa [acond, h] using ha h
theorem agrd_bt {b : Bool} {K : K3} (ha : b = true → K.a) (hb : b = false → K.b) : agrd (K := K) (.v (.bool b)) true := agrd_split ha hb
theorem agrd_bf {b : Bool} {K : K3} (ha : b = false → K.a) (hb : b = true → K.b) : agrd (K := K) (.v (.bool b)) false := agrd_split ha hb
theorem agrd_dec {p : Prop} {d : Decidable p} {K : K3} (ha : p → K.a) (hb : ¬ p → K.b) : agrd (K := K) (.v (.bool (@decide p d))) true :=
  agrd_split (fun h => ha (of_decide_eq_true h)) (fun h => hb (of_decide_eq_false h))
theorem agrd_decf {p : Prop} {d : Decidable p} {K : K3} (ha : ¬ p → K.a) (hb : p → K.b) : agrd (K := K) (.v (.bool (@decide p d))) false :=
  agrd_split (fun h => ha (of_decide_eq_false h)) (fun h => hb (of_decide_eq_true h))
theorem agrd_ndec {p : Prop} {d : Decidable p} {K : K3} (ha : ¬ p → K.a) (hb : p → K.b) : agrd (K := K) (.v (.bool (!(@decide p d)))) true :=
  agrd_split (fun h => ha (by simpa using h)) (fun h => hb (by simpa using h))
theorem agrd_ndecf {p : Prop} {d : Decidable p} {K : K3} (ha : p → K.a) (hb : ¬ p → K.b) : agrd (K := K) (.v (.bool (!(@decide p d)))) false :=
  agrd_split (fun h => ha (by simpa using h)) (fun h => hb (by simpa using h))
/-! ### Calls whose outcome is told -/
theorem ACallK.eq {K : Kt} {g : FuncId} {xs : List AV} {H : AH} {r : AV} (h : ACalls P W0 g xs H (fun v H' => v = r ∧ H' = H)) (k : K.k r H) : ACallK (K := K) P W0 g xs H :=
  ACallK.of h (by rintro _ _ ⟨rfl, rfl⟩; exact k)
theorem retK_eq {N0 : Nat} {H : AH} {r v : AV} (h : v = r) : retK N0 H (fun v H' => v = r ∧ H' = H) (some [v]) := retK_one ⟨h, rfl⟩
theorem retK_back {H H' : AH} {r v : AV} (hc : H.closed) (h : v = r) (hs : Sub H H' := by repeat (first | exact Sub.refl _ | assumption | refine Sub.new (by assumption) ?_ _ _ | refine Sub.kill_new (by assumption) ?_ _ _ | refine Sub.trans ?_ (by assumption))) (hv : refsLt H.nxt v := by first | trivial | (simp only [refsLt, refsLts, and_self]; done)) : retK H.nxt H' (fun v H' => v = r ∧ H' = H) (some [v]) := retK_same hc hs hv ⟨h, rfl⟩
theorem retK_eq2 {N0 : Nat} {H : AH} {r v w : AV} {l : List AV} (h : AV.tup (v :: w :: l) = r) : retK N0 H (fun v H' => v = r ∧ H' = H) (some (v :: w :: l)) := retK_two ⟨h, rfl⟩
theorem retK_back2 {H H' : AH} {r v w : AV} {l : List AV} (hc : H.closed) (h : AV.tup (v :: w :: l) = r) (hs : Sub H H' := by repeat (first | exact Sub.refl _ | assumption | refine Sub.new (by assumption) ?_ _ _ | refine Sub.kill_new (by assumption) ?_ _ _ | refine Sub.trans ?_ (by assumption))) (hv : refsLt H.nxt (.tup (v :: w :: l)) := by first | trivial | (simp only [refsLt, refsLts, and_self]; done)) : retK H.nxt H' (fun v H' => v = r ∧ H' = H) (some (v :: w :: l)) :=
  ⟨H, .inr ⟨Nat.le_refl _, hs.2, hc.1, .inr ⟨hs.1, hc.2⟩⟩, .inr hv, h, rfl⟩
theorem tv {a b : List AV} (h : a = b) : AV.tup a = AV.tup b := by rw [h]
/-- A function's contract out of its code; the memory is closed. -/
theorem acallw {f : FuncId} {fn : Func} {c : Code} (hf : P.funcs[f]? = some fn) (hb : fn.body = some c) (hc : callable P f = true) {args : List AV} (hd : dstsOk (args.length + (fn.ntmps - args.length)) c = true) {H : AH} {R : AV → AH → Prop}
    (h : H.closed → H.wf → acode P W0 H.nxt c (retA P W0 H.nxt fn.results.toList R) (env0 args) H) : ACalls P W0 f args H R :=
  acalls hf hb hc hd fun h1 => h h1 h1.1
theorem bv {a b : Bool} (h : a = true ↔ b = true) : AV.v (.bool a) = AV.v (.bool b) := by rw [Bool.eq_iff_iff.2 h]
theorem iv {k : IntKind} {a b : Int} (h : a = b) : AV.v (.int k a) = AV.v (.int k b) := by rw [h]
theorem sv {a b : ByteArray} (h : a = b) : AV.v (.string a) = AV.v (.string b) := by rw [h]
/-! ### Loops -/
section
variable {all : Array Oper}
theorem aops_mono {Q Q' : Env → AH → Prop} (hq : ∀ e H, Q e H → Q' e H) : ∀ (os : List Oper) (e : Env) (H : AH), aops P W0 all os Q e H → aops P W0 all os Q' e H
  | [], e, H, h => hq _ _ h
  | o :: os, e, H, h => by
    rw [aops_raw] at h ⊢
    exact raw1_mono (fun v H' k => aops_mono hq os _ _ k) h
theorem wl_mono {bef : Nat → Nat → Bool} {Q Q' : Env → AH → Prop} (hq : ∀ e H, Q e H → Q' e H) : ∀ (l hist : List Nat) (e : Env) (H : AH), wl P W0 all bef Q hist l e H → wl P W0 all bef Q' hist l e H
  | [], _, _, _, h => hq _ _ h
  | i :: l, hist, e, H, h => by
    simp only [wl] at h ⊢
    split at h
    · split at h
      · rename_i hx
        rw [if_pos hx]
        exact raw1_mono (fun v H' hk => wl_mono hq l _ _ _ hk) h
      · rename_i hx
        rw [if_neg hx]
        exact raw1_mono (fun v H' hk => ⟨hk.1, wl_mono hq l _ _ _ hk.2⟩) h
    · exact h
end
theorem adraw_mono {ops : Array Oper} {Q Q' : Env → AH → Prop} (hq : ∀ e H, Q e H → Q' e H) {e : Env} {H : AH} (h : adraw P W0 ops Q e H) : adraw P W0 ops Q' e H := by
  obtain ⟨hf, ⟨ord, h1, h2, h3⟩ | ⟨t, h1, h2⟩⟩ := h
  · exact ⟨hf, .inl ⟨ord, h1, h2, wl_mono hq _ _ _ _ h3⟩⟩
  · exact ⟨hf, .inr ⟨t, h1, wt_monoQ hq _ _ _ _ h2⟩⟩
theorem acode_mono {N0 : Nat} : ∀ {c : Code} {Q Q' : AX → Env → AH → Prop} {e : Env} {H : AH}, (∀ x e H, Q x e H → Q' x e H) → acode P W0 N0 c Q e H → acode P W0 N0 c Q' e H := by
  intro c
  induction c with
  | skip => intro Q Q' e H hq h; exact hq _ _ _ h
  | region id ops draw =>
    intro Q Q' e H hq h
    simp only [acode] at h ⊢
    split
    · rename_i hd; rw [if_pos hd] at h; exact adraw_mono (hq _) h
    · rename_i hd; rw [if_neg hd] at h; exact aops_mono (hq _) _ _ _ h
  | seq a b iha ihb =>
    intro Q Q' e H hq h
    simp only [acode] at h ⊢
    refine iha (fun x e H k => ?_) h
    cases x with
    | normal => exact ihb hq k
    | exit n => exact hq _ _ _ k
    | ret => exact hq _ _ _ k
  | cond c a b iha ihb =>
    intro Q Q' e H hq h
    simp only [acode] at h ⊢
    split at h
    · split at h
      · rename_i ht; rw [if_pos ht]; exact iha hq h
      · rename_i ht; rw [if_neg ht]; exact ihb hq h
    · exact h
  | block id c ih =>
    intro Q Q' e H hq h
    simp only [acode] at h ⊢
    refine ih (fun x e H k => ?_) h
    cases x with
    | normal => exact hq _ _ _ k
    | exit n =>
      simp only [blockQ] at k ⊢
      split at k
      · rename_i hn; rw [if_pos hn]; exact hq _ _ _ k
      · rename_i hn; rw [if_neg hn]; exact hq _ _ _ k
    | ret => exact hq _ _ _ k
  | loop c ih =>
    intro Q Q' e H hq h
    simp only [acode] at h ⊢
    obtain ⟨I, n, h0, hs⟩ := h
    refine ⟨I, n, h0, fun n e H hI => ih (fun x e H k => ?_) (hs n e H hI)⟩
    cases x with
    | normal => exact k
    | exit n => exact hq _ _ _ k
    | ret => exact hq _ _ _ k
  | exit id => intro Q Q' e H hq h; exact hq _ _ _ h
  | ret => intro Q Q' e H hq h; exact hq _ _ _ h
  | _ => intro Q Q' e H hq h; exact h
/-- A loop: its state s; the frame and the memory that go with it; what falls. -/
theorem acode_while {N0 : Nat} {c : Code} {Q : AX → Env → AH → Prop} {e : Env} {H : AH} {σ : Type} (F : σ → List (Nat × AV)) (I : σ → AH → Prop) (μ : σ → Nat) (s0 : σ) (hI : I s0 H)
    (hs : ∀ s H', I s H' → acode P W0 N0 c (loopQ (fun e' H'' => ∃ s', μ s' < μ s ∧ frOk e' (F s') ∧ I s' H'') Q) (fr (F s)) H') (h0 : frOk e (F s0) := by first | (simp only [frOk, go_sem]; done) | (simp only [frOk, go_sem]; simp; done)) : acode P W0 N0 (.loop c) Q e H := by
  have hl : ∀ (Q : AX → Env → AH → Prop) (I I' : Env → AH → Prop), (∀ e H, I e H → I' e H) → ∀ x e H, loopQ I Q x e H → loopQ I' Q x e H := by
    intro Q I I' h x e H
    cases x <;> exact fun k => by first | exact h _ _ k | exact k
  refine ⟨fun n e H => ∃ s, n = μ s ∧ e = fr (F s) ∧ I s H, μ s0 + 1, ⟨μ s0, fr (F s0), H, Nat.lt_succ_self _, ⟨.inl rfl, fun t => (fr_of h0 t).imp id fun h => ⟨h, .inl rfl⟩⟩, s0, rfl, rfl, hI⟩, ?_⟩
  rintro n e H ⟨s, rfl, rfl, hI⟩
  refine acode_mono (hl _ _ _ ?_) (hs s H hI)
  rintro e' H'' ⟨s', h1, h2, h3⟩
  exact ⟨μ s', fr (F s'), H'', h1, ⟨.inl rfl, fun t => (fr_of h2 t).imp id fun h => ⟨h, .inl rfl⟩⟩, s', rfl, rfl, h3⟩
theorem aix_strn {K : Kt} {H : AH} {t : TypeId} {s : ByteArray} {k : IntKind} {j : Nat} (hk : 0 ≤ bt s j → bt s j ≤ 255 → K.k (.v (.int .u8 (bt s j))) H) (h1 : j < s.size := by omega) (ht : isStr P t = true := by simp only [go_sem]) :
    aix (K := K) P t (.v (.string s)) (.v (.int k (j : Int))) H := by
  refine ⟨ht, by omega, s[j]'h1, by simp, ?_⟩
  have h2 := bt_le s j
  have h3 := hk h2.1 h2.2
  unfold bt at h3
  rwa [show s[j]? = some (s[j]'h1) by simp [h1]] at h3
theorem aix_str {K : Kt} {H : AH} {t : TypeId} {s : ByteArray} {k : IntKind} {j : Int} (hk : 0 ≤ bt s j.toNat → bt s j.toNat ≤ 255 → K.k (.v (.int .u8 (bt s j.toNat))) H) (h0 : 0 ≤ j := by omega) (h1 : j < s.size := by omega) (ht : isStr P t = true := by simp only [go_sem]) :
    aix (K := K) P t (.v (.string s)) (.v (.int k j)) H := by
  refine ⟨ht, h0, s[j.toNat]'(by omega), by simp, ?_⟩
  have h2 := bt_le s j.toNat
  have h3 := hk h2.1 h2.2
  unfold bt at h3
  rwa [show s[j.toNat]? = some (s[j.toNat]'(by omega)) by simp] at h3
/-! ### Memory that has grown -/
theorem aK_sub {K : Kl} {H H' : AH} (hs : Sub H H') {b : Nat} {f : Blk → Option (List AV)} (h : aK (K := K) ((H.blk b).bind f)) : aK (K := K) ((H'.blk b).bind f) := by
  cases hB : H.blk b with
  | none => rw [hB] at h; exact h.elim
  | some B => rw [hs.2 _ _ hB]; rwa [hB] at h
/-! ### Elements -/
/-- A place within an element. -/
def ixF (s : Nat) : AV → Nat → Nat → AV
  | .sl b o n, j, f => .ptr b (o + j * s + f)
  | .slc b o n _, j, f => .ptr b (o + j * s + f)
  | .v (.slice (some a) n _), j, f => .v (.pointer (some (a.add (j * s + f))))
  | _, _, _ => .dead
section
variable {α : Type} [Ob α]
theorem aixs_sl {K : Kt} {H H' : AH} {v : AV} {xs : List α} {g : Bool} {s b : Nat} {z : List Value} {k : IntKind} {j : Int} (h : SlR W0 H v xs) (hk : K.k (ixF s v j.toNat 0) H')
    (hs : Sub H H' := by repeat (first | exact Sub.refl _ | assumption | refine Sub.new (by assumption) ?_ _ _ | refine Sub.kill_new (by assumption) ?_ _ _ | refine Sub.trans ?_ (by assumption))) (hz : s = Ob.n α := by rfl) (h0 : 0 ≤ j := by omega) (h1 : j < xs.length := by omega) : aixs (K := K) (some ⟨g, s, b, z⟩) v (.v (.int k j)) H' := by
  refine aixs_SlR (h.sub hs) hz h0 h1 ?_
  have : ixA s v j.toNat = ixF s v j.toNat 0 := by
    cases v with
    | v x =>
      cases x with
      | slice a n c => cases a <;> rfl
      | _ => rfl
    | _ => rfl
  rw [this]; exact hk
theorem aixs_sln {K : Kt} {H H' : AH} {v : AV} {xs : List α} {g : Bool} {s b : Nat} {z : List Value} {k : IntKind} {j : Nat} (h : SlR W0 H v xs) (hk : K.k (ixF s v j 0) H')
    (hs : Sub H H' := by repeat (first | exact Sub.refl _ | assumption | refine Sub.new (by assumption) ?_ _ _ | refine Sub.kill_new (by assumption) ?_ _ _ | refine Sub.trans ?_ (by assumption))) (hz : s = Ob.n α := by rfl) (h1 : j < xs.length := by omega) : aixs (K := K) (some ⟨g, s, b, z⟩) v (.v (.int k (j : Int))) H' :=
  aixs_sl h hk hs hz (by omega) (by omega)
theorem SlR.shape {H : AH} {v : AV} {xs : List α} (h : SlR W0 H v xs) (hn : 0 < xs.length) : (∃ b o n, v = .sl b o n) ∨ ∃ a n c, v = .v (.slice (some a) n c) := by
  obtain ⟨e1, e2, cs, e3, e4⟩ := h
  unfold slCells at e3
  unfold slN at e1
  split at e1
  · exact .inl ⟨_, _, _, rfl⟩
  · rename_i a n c
    cases a with
    | some a => exact .inr ⟨_, _, _, rfl⟩
    | none =>
      simp only at e3
      split at e3
      · omega
      · cases e3
  · cases e1
theorem afa_sl {K : Kt} {H H' : AH} {v : AV} {xs : List α} {g : Bool} {n b : Nat} {z : List Value} {s j f off : Nat} (h : SlR W0 H v xs) (hk : K.k (ixF s v j (f + off)) H') (hj : j < xs.length := by omega) (hn : n ≠ 0 := by decide) :
    afa2 (K := K) (some ⟨g, n, b, z⟩) off (ixF s v j f) H' := by
  rcases h.shape (by omega) with ⟨b, o, m, rfl⟩ | ⟨a, m, c, rfl⟩
  · exact ⟨hn, by simpa only [ixF, Nat.add_assoc] using hk⟩
  · refine ⟨hn, ?_⟩
    simp only [ixF] at hk ⊢
    rw [Addr.add_add, Nat.add_assoc]; exact hk
theorem SlR.rdF {s : Nat} {H : AH} {v : AV} {xs : List α} (h : SlR W0 H v xs) (hz : s = Ob.n α) {j f n : Nat} (hj : j < xs.length) (ho : f + n ≤ Ob.n α) : ∃ cs, rdCells W0 H n (ixF s v j f) = some ((cs.drop f).take n) ∧ Ob.rep W0 H cs xs[j] := by
  subst hz
  obtain ⟨cs, h1, h2⟩ := h.rd j hj
  refine ⟨cs, ?_, h2⟩
  have hl := Ob.len h2
  rcases h.shape (by omega) with ⟨b, o, m, rfl⟩ | ⟨a, m, c, rfl⟩
  · simp only [ixA, rdCells] at h1
    simp only [ixF, rdCells]
    cases hB : H.blk b with
    | none => rw [hB] at h1; cases h1
    | some B =>
      rw [hB] at h1
      simp only [Option.bind_some] at h1 ⊢
      split at h1
      · rename_i hle
        simp only [Option.some.injEq] at h1
        rw [if_pos (by omega), ← h1, List.drop_take, List.take_take, List.drop_drop]
        congr 2
        omega
      · cases h1
  · simp only [ixA, rdCells] at h1
    simp only [ixF, rdCells]
    simp only [Option.map_eq_some_iff] at h1 ⊢
    obtain ⟨l, hl1, rfl⟩ := h1
    refine ⟨(l.drop f).take n, ?_, by rw [List.map_take, List.map_drop]⟩
    simp only [List.length_map] at hl
    rw [rdOld_iff] at hl1 ⊢
    refine ⟨by simp; omega, fun i hi => ?_⟩
    have h2 := hl1.2 (f + i) (by omega)
    rw [List.getElem?_take, if_pos hi, List.getElem?_drop, ← h2, Addr.add_add, Addr.add_add, Nat.add_assoc]
theorem aK_sl {K : Kl} {H H' : AH} {v : AV} {xs : List α} {s j f n : Nat} (h : SlR W0 H v xs) (hj : j < xs.length) (hk : ∀ cs, Ob.rep W0 H cs xs[j] → K.k ((cs.drop f).take n))
    (hs : Sub H H' := by repeat (first | exact Sub.refl _ | assumption | refine Sub.new (by assumption) ?_ _ _ | refine Sub.kill_new (by assumption) ?_ _ _ | refine Sub.trans ?_ (by assumption))) (hz : s = Ob.n α := by rfl) (ho : f + n ≤ Ob.n α := by decide) : aK (K := K) (rdCells W0 H' n (ixF s v j f)) := by
  obtain ⟨cs, h1, h2⟩ := h.rdF hz hj ho
  have h3 : rdCells W0 H' n (ixF s v j f) = some ((cs.drop f).take n) := by
    rw [← h1]
    rcases h.shape (by omega) with ⟨b, o, m, rfl⟩ | ⟨a, m, c, rfl⟩
    · simp only [ixF, rdCells] at h1 ⊢
      cases hB : H.blk b with
      | none => rw [hB] at h1; cases h1
      | some B => rw [hs.2 _ _ hB]
    · rfl
  exact aK_to _ h3 (hk cs h2)
theorem aK_slw {K : Kl} {H H' : AH} {v : AV} {xs : List α} {s j n : Nat} (h : SlR W0 H v xs) (hj : j < xs.length) (hk : ∀ cs, Ob.rep W0 H cs xs[j] → K.k cs)
    (hs : Sub H H' := by repeat (first | exact Sub.refl _ | assumption | refine Sub.new (by assumption) ?_ _ _ | refine Sub.kill_new (by assumption) ?_ _ _ | refine Sub.trans ?_ (by assumption))) (hz : s = Ob.n α := by rfl) (ho : n = Ob.n α := by rfl) : aK (K := K) (rdCells W0 H' n (ixF s v j 0)) := by
  refine aK_sl h hj (fun cs hc => ?_) hs hz (by omega)
  have := Ob.len hc
  rw [List.drop_zero, List.take_of_length_le (by omega)]
  exact hk cs hc
theorem abi_len_sl' {K : Kt} {t : TypeId} {H H' : AH} {v : AV} {xs : List α} (h : SlR W0 H v xs) (hk : K.k (.v (.int .i64 xs.length)) H') (ht : (elt P t).isSome = true := by simp only [go_sem]) : abi (K := K) P W0 .len [t] [v] H' :=
  abi_len h.slLen ht hk
end
end Go.Proofs.Ythcjolappblieaa.Aw
