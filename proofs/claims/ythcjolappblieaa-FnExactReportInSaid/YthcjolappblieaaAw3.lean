/- The calculus 'Aw', part 3: each operation, held against the machine. -/
import Derived.Test.YthcjolappblieaaAw2
namespace Go.Proofs.Ythcjolappblieaa.Aw
open Go Go.RowKit
set_option linter.unusedVariables false
set_option linter.unusedSimpArgs false
set_option linter.unusedSectionVars false
set_option maxHeartbeats 1000000

def Good (W0 : World) (φ : Phi) (K : AV → AH → Prop) (y : Value) (W' : World) : Prop := ∃ v H' φ', VR φ' v y ∧ Inv W0 φ' H' W' ∧ Ext φ φ' ∧ K v H'
def OpOk (P : Program) (W0 : World) (φ : Phi) (K : AV → AH → Prop) (ρ : Operand → Value) (o : Oper) (W : World) : Prop :=
  (∃ y W', (execOp ρ o).run P W = .ok (.value y) W' ∧ Good W0 φ K y W') ∨ (∃ W', (execOp ρ o).run P W = .ok .skip W' ∧ Good W0 φ K undef W') ∨
  ∃ f args W', (execOp ρ o).run P W = .ok (.enter f args) W' ∧ Calls P f args W' fun e W'' => ∃ y, e = .returned y ∧ Good W0 φ K y W''

variable {P : Program} {W0 W : World} {φ : Phi} {H : AH} {K : AV → AH → Prop}

theorem tyi_run {t : TypeId} {i : TyI} (h : tyi P t = some i) : ∃ (d : TypeDesc) (j : TypeInfo) (z : Value), P.underlying t = some d ∧ P.info? t = some j ∧ j.zero = some z ∧
    i = ⟨isAggD d, j.size, j.bytes, z.cells.toList⟩ := by
  unfold tyi at h
  split at h
  · rename_i d j h1 h2
    cases hz : j.zero with
    | none => simp [hz] at h
    | some z =>
      simp only [hz, Option.map_some, Option.some.injEq] at h
      exact ⟨d, j, z, h1, h2, hz, h.symm⟩
  · cases h
theorem elt_run {t e : TypeId} (h : elt P t = some e) : P.underlying t = some (.slice e) := by
  unfold elt at h
  split at h
  · rename_i hu; cases h; exact hu
  · cases h
theorem isAgg_run {t : TypeId} {d : TypeDesc} (hd : P.underlying t = some d) (W : World) : (isAgg t).run P W = .ok (isAggD d) W := by
  unfold isAgg
  simp only [Sem.run_bind, run_underlying hd, Result.andThen_ok]
  cases d <;> rfl
theorem sizeOf_run {t : TypeId} {i : TypeInfo} (hi : P.info? t = some i) (W : World) : (sizeOf t).run P W = .ok i.size W := by
  simp [sizeOf, typeInfo, hi]
theorem zero_run {t : TypeId} {i : TypeInfo} {z : Value} (hi : P.info? t = some i) (hz : i.zero = some z) (W : World) : (zeroValue t).run P W = .ok z W := by
  simp [zeroValue, typeInfo, hi, hz]
theorem good_same (hI : Inv W0 φ H W) {v : AV} {y : Value} (hv : VR φ v y) (hk : K v H) : Good W0 φ K y W := ⟨v, H, φ, hv, hI, Ext.refl _, hk⟩

/-- A new block. -/
theorem good_new (hI : Inv W0 φ H W) {cells : List AV} {ys : List Value} (hv : VRs φ cells ys) (esz : Nat) (e : TypeId) {C : Array Value} (hC : C = ys.toArray) :
    Inv W0 (updφ φ H.nxt ⟨W.heap.size, 0, esz, C.size⟩) (H.new cells esz) { W with heap := W.heap.push (.cells C e) } ∧ Ext φ (updφ φ H.nxt ⟨W.heap.size, 0, esz, C.size⟩) := by
  subst hC
  refine hI.new esz (by simp [hv.length]) fun j v hj => ?_
  obtain ⟨y, hy, hv⟩ := hv.get j v hj
  exact ⟨y, by simpa using hy, hv⟩

theorem updφ_at (φ : Phi) (b : Nat) (p : Pl) : updφ φ b p b = some p := by simp [updφ]

theorem load_run (hI : Inv W0 φ H W) {t : TypeId} {i : TyI} (ht : tyi P t = some i) (ha : i.agg = true ∨ i.size = 1) {x : AV} {y : Value} (hx : VR φ x y) {cs : List AV} (hr : rdCells W0 H i.size x = some cs) :
    ∃ u, (Instr.loadAt t y).run P W = .ok u W ∧ VR φ (mkv i.agg cs) u := by
  obtain ⟨d, j, z, hd, hj, hz, rfl⟩ := tyi_run ht
  obtain ⟨a, ys, rfl, hv, hl, hc⟩ := hI.rd hx hr
  have hlen : ys.length = j.size := by rw [← hv.length, hl]
  have hld : (loadCells a j.size).run P W = .ok ys.toArray W := by
    rw [← hlen]
    exact run_loadCells_list W a ys hc
  simp only [Instr.loadAt, Instr.sureAddr, Sem.run_bind, Sem.run_pure, Result.andThen_ok, loadVar, isAgg_run hd]
  by_cases h : isAggD d = true
  · simp only [h, if_true, Sem.run_bind, sizeOf_run hj, Result.andThen_ok, hld, Sem.run_pure]
    exact ⟨_, rfl, .agg hv⟩
  · have h1 : j.size = 1 := by
      rcases ha with ha | ha
      · exact absurd ha h
      · exact ha
    simp only [Bool.not_eq_true] at h
    simp only [h, Bool.false_eq_true, if_false]
    match ys, hv, hlen with
    | [u], hv, _ =>
      cases hv with
      | cons hv1 hv2 =>
        rename_i a1 l1
        cases hv2
        have := hc 0 u (by simp)
        simp only [Addr.add_zero'] at this
        exact ⟨u, by simp [this], hv1⟩
    | [], hv, hl => simp [h1] at hl
    | _ :: _ :: _, hv, hl => simp [h1] at hl

theorem store_run (hI : Inv W0 φ H W) {t : TypeId} {i : TyI} (ht : tyi P t = some i) {b o : Nat} {y u : Value} {x : AV} (hy : VR φ (.ptr b o) y) (hx : VR φ x u) (hs : astore H i.size b o x K) :
    ∃ W', (Instr.storeAt t y u).run P W = .ok () W' ∧ Good W0 φ K undef W' := by
  obtain ⟨d, j, z, hd, hj, hz, rfl⟩ := tyi_run ht
  cases hy with
  | ptr hp =>
    rename_i p
    unfold astore at hs
    split at hs
    · rename_i B cs hB hcs
      obtain ⟨h1, h2, h3, h4⟩ := hs
      simp only at h1 h2
      have hv := cells_ok hx hcs
      have hlen := hv.length
      have hl2 : u.cells.size = cs.length := by rw [hlen, Array.length_toList]
      obtain ⟨p0, hp0, k1, k2, k3, C, e, hC, k4, k5⟩ := hI.blks b B hB
      rw [hp] at hp0
      cases hp0
      have hst := run_storeCells_at P p.g (p.base + o) e u.cells.toList 0 C W hC (by simp only [Nat.add_zero]; omega) (leafs_ok hv h3)
      simp only [Nat.add_zero] at hst
      refine ⟨W.setRow p.g (C.toList.take (p.base + o) ++ u.cells.toList ++ C.toList.drop (p.base + o + u.cells.toList.length)).toArray, ?_, .dead, H.set b ⟨wr B.cells o cs, B.esz⟩, φ, .dead _, ?_, Ext.refl _, h4⟩
      · have hsz : u.cells.size = j.size := by rw [← h1, hlen, Array.length_toList]
        simp only [Instr.storeAt, Instr.sureAddr, Sem.run_bind, Sem.run_pure, Result.andThen_ok, storeVar, sizeOf_run hj]
        simp [hsz, hst]
      · refine hI.write hB hp hC (by simp; omega) (by rw [wr_length _ _ _ (by omega)]; exact k3) fun q v hq => ?_
        unfold wr at hq
        rw [List.getElem?_append, List.getElem?_append] at hq
        simp only [List.length_append, List.length_take, List.getElem?_toArray] at hq ⊢
        rw [List.getElem?_append, List.getElem?_append]
        simp only [List.length_append, List.length_take, Array.length_toList]
        have m1 : min o B.cells.length = o := by omega
        have m2 : min (p.base + o) C.size = p.base + o := by omega
        rw [m1] at hq
        rw [m2]
        rw [hl2]
        by_cases c1 : q < o
        · rw [if_pos (by omega), if_pos c1, List.getElem?_take, if_pos c1] at hq
          rw [if_pos (by omega), if_pos (by omega), List.getElem?_take, if_pos (by omega), Array.getElem?_toList]
          exact k5 q v hq
        · by_cases c2 : q < o + cs.length
          · rw [if_pos c2, if_neg c1] at hq
            rw [if_pos (by omega), if_neg (by omega), show p.base + q - (p.base + o) = q - o from by omega]
            exact hv.get _ _ hq
          · rw [if_neg c2, List.getElem?_drop] at hq
            rw [if_neg (by omega), List.getElem?_drop, Array.getElem?_toList, show p.base + o + cs.length + (p.base + q - (p.base + o + cs.length)) = p.base + (o + cs.length + (q - (o + cs.length))) from by omega]
            exact k5 _ v hq
    · exact hs.elim

/-- What append reads: the new cells. -/
theorem firstCells_run (hI : Inv W0 φ H W) {x : AV} {y : Value} (hx : VR φ x y) {s n : Nat} {cs : List AV} (hr : slCells W0 H s n x = some cs) :
    ∃ (A : Option Addr) (m c : Nat) (ys : List Value), y = .slice A m c ∧ VRs φ cs ys ∧ cs.length = n * s ∧ n ≤ m ∧ ∀ n', (Builtin.firstCells s n (.slice A m c)).run P { W with drawn := n' } = .ok ys.toArray { W with drawn := n' } := by
  obtain ⟨A, m, c, ys, rfl, hv, hl, hn, h0, hc⟩ := hI.slc hx hr
  refine ⟨A, m, c, ys, rfl, hv, hl, hn, fun n' => ?_⟩
  have hlen : ys.length = n * s := by rw [← hv.length, hl]
  cases A with
  | none =>
    have : n = 0 := h0 rfl
    subst this
    have : ys = [] := List.eq_nil_of_length_eq_zero (by simpa using hlen)
    subst this
    simp [Builtin.firstCells]
  | some a =>
    have := run_loadCells_list (P := P) { W with drawn := n' } a ys (hc a rfl)
    rw [hlen] at this
    simp only [Builtin.firstCells, this]


section
variable (t t' ty e e' : TypeId) (i : TypeInfo) (z : Value) (ht : P.underlying t = some (.slice e)) (ht' : P.underlying t' = some (.slice e')) (hi : P.info? e = some i) (hz : i.zero = some z)
  (x : Value) (n : Nat) (news : Array Value) (hx : (Builtin.lenOf x) = pure n)
  (hf : ∀ dr, (Builtin.firstCells i.size n x).run P { W with drawn := dr } = .ok news { W with drawn := dr })
include ht ht' hi hz hx hf
theorem app_grow (b : Option Addr) (sLen sCap : Nat) (olds : Array Value) (hfo : ∀ dr, (Builtin.firstCells i.size sLen (.slice b sLen sCap)).run P { W with drawn := dr } = .ok olds { W with drawn := dr })
    (hg : sCap < sLen + n) (h63 : ((sLen + n : Nat) : Int) ≤ 9223372036854775807) (hfit : Builtin.nextslicecap (sLen + n) sCap * i.bytes ≤ 281474976710656) :
    (Builtin.append_ #[t, t'] ty #[.slice b sLen sCap, x]).run P W =
      .ok (.slice (some ⟨W.heap.size, 0, none⟩) (sLen + n) (grownCap W (sLen + n) sCap e))
        { W with drawn := W.drawn + 1, heap := W.heap.push (.cells (olds ++ news ++ Builtin.zeroCells z.cells (grownCap W (sLen + n) sCap e - (sLen + n))) e) } := by
  have hn : ¬ (sLen + n ≤ sCap) := by omega
  have h63' : ¬ (9223372036854775807 < ((sLen : Int) + (n : Int))) := by omega
  have h48' : ¬ (281474976710656 < Builtin.nextslicecap (sLen + n) sCap * i.bytes) := by omega
  have hf1 : (Builtin.firstCells i.size n x).run P W.drew = .ok news W.drew := hf (W.drawn + 1)
  have hf2 : (Builtin.firstCells i.size sLen (.slice b sLen sCap)).run P W.drew = .ok olds W.drew := hfo (W.drawn + 1)
  simp [Builtin.append_, run_underlying ht, run_underlying ht', sizeOf, typeInfo, zeroValue, hi, hz, hx, hn, h63', h48', Question.forced, hf1, hf2, newRow, grownCap]
  rfl
theorem app_room (g off sLen sCap : Nat) (cur : Array Value) (et : TypeId) (hg : W.heap[g]? = some (.cells cur et (0, 0))) (h1 : ∀ u ∈ news.toList, u.oneCell' = true)
    (hroom : sLen + n ≤ sCap) (hfit : off + sLen * i.size + news.size ≤ cur.size) :
    (Builtin.append_ #[t, t'] ty #[.slice (some ⟨g, off, none⟩) sLen sCap, x]).run P W =
      .ok (.slice (some ⟨g, off, none⟩) (sLen + n) sCap) (W.setRow g (cur.toList.take (off + sLen * i.size) ++ news.toList ++ cur.toList.drop (off + sLen * i.size + news.size)).toArray) := by
  have hst := run_storeCells_at P g (off + sLen * i.size) et news.toList 0 cur W hg (by simpa using hfit) h1
  have hf1 : (Builtin.firstCells i.size n x).run P W = .ok news W := hf W.drawn
  simp only [Nat.add_zero, Array.length_toList] at hst
  simp [Builtin.append_, run_underlying ht, run_underlying ht', sizeOf, typeInfo, hi, hx, hroom, hf1, Addr.add_lit, hst]
/-- Nothing to append, and no room needed: the slice itself. -/
theorem app_zero (b : Option Addr) (sLen sCap : Nat) (h0 : n = 0) (hn : news = #[]) (hc : sLen ≤ sCap) :
    (Builtin.append_ #[t, t'] ty #[.slice b sLen sCap, x]).run P W = .ok (.slice b sLen sCap) W := by
  subst h0
  subst hn
  have hf1 : (Builtin.firstCells i.size 0 x).run P W = .ok #[] W := hf W.drawn
  cases b <;> simp [Builtin.append_, run_underlying ht, run_underlying ht', sizeOf, typeInfo, hi, hx, hc, hf1, storeCells]
end

theorem append_run (hI : Inv W0 φ H W) {e t t' : TypeId} (ht : elt P t = some e) {e' : TypeId} (ht' : elt P t' = some e') {d s : AV} {yd ys : Value} (hd : VR φ d yd) (hs : VR φ s ys) (ty : TypeId) (ha : aappend P W0 H e d s K) :
    ∃ y W', (Builtin.append_ #[t, t'] ty #[yd, ys]).run P W = .ok y W' ∧ Good W0 φ K y W' := by
  unfold aappend at ha
  split at ha
  case h_2 => exact ha.elim
  rename_i i m hi hm
  split at ha
  case h_2 => exact ha.elim
  rename_i new hnew
  obtain ⟨hsz, hby, hzl, hleaf, ha⟩ := ha
  obtain ⟨D, j, z, hD, hj, hz, rfl⟩ := tyi_run hi
  simp only at hsz hby hzl ha hnew
  obtain ⟨A, mm, c, news, rfl, hnv, hnl, hmm, hfc⟩ := firstCells_run (P := P) hI hs hnew
  have hmm' : mm = m := by
    cases hs <;> simp_all [lenA, slLen]
  subst hmm'
  have hnews : news.length = mm * j.size := by rw [← hnv.length, hnl]
  have hzc : z.cells.size = j.size := by rw [← hzl, Array.length_toList]
  have hlen : Builtin.lenOf (.slice A mm c) = pure mm := rfl
  -- what a new row is
  have fresh : ∀ (H1 : AH) (old : List AV) (oldv : List Value), Inv W0 φ H1 W → VRs φ old oldv → ∀ (n cap : Nat), n + mm ≤ cap → old.length = n * j.size → ∀ (dr : Nat),
      K (.sl H1.nxt 0 (n + mm)) (H1.new (old ++ new) j.size) → Good W0 φ K (.slice (some ⟨W.heap.size, 0, none⟩) (n + mm) cap)
        { W with drawn := dr, heap := W.heap.push (.cells (oldv.toArray ++ news.toArray ++ Builtin.zeroCells z.cells (cap - (n + mm))) e) } := by
    intro H1 old oldv hI1 hov n cap hcap hol dr hk
    have hIdr := hI1.drawn dr
    have hcs : (oldv.toArray ++ news.toArray ++ Builtin.zeroCells z.cells (cap - (n + mm))).size = cap * j.size := by
      have hol' : oldv.length = n * j.size := by rw [← hov.length, hol]
      simp only [Array.size_append, List.size_toArray, size_zeroCells, hzc, hnews, hol', ← Nat.add_mul]
      congr 1
      omega
    have hnew2 := hIdr.new (cells := old ++ new) j.size (C := oldv.toArray ++ news.toArray ++ Builtin.zeroCells z.cells (cap - (n + mm))) (e := e)
      (by rw [hcs, List.length_append, hol, hnl, ← Nat.add_mul]; exact Nat.mul_le_mul_right _ hcap)
      (fun q v hq => by
        obtain ⟨y, hy, hv⟩ := (hov.append hnv).get q v hq
        refine ⟨y, ?_, hv⟩
        rw [← Array.getElem?_toList, Array.toList_append, Array.toList_append, List.getElem?_append_left]
        · exact hy
        · have := (List.getElem?_eq_some_iff.1 hy).1
          simpa using this)
    exact ⟨_, _, _, .sl (updφ_at _ _ _) hcap (.inr ⟨by simp, by simp only [hcs]; omega⟩), hnew2.1, hnew2.2, hk⟩
  have nilc : ∀ (A' : Option Addr) (X : AV), VR φ X (.slice A' 0 0) → mm * j.bytes ≤ 140737488355328 → (if mm = 0 then K X H else K (.sl H.nxt 0 mm) (H.new new j.size)) →
      ∃ y W', (Builtin.append_ #[t, t'] ty #[.slice A' 0 0, .slice A mm c]).run P W = .ok y W' ∧ Good W0 φ K y W' := by
    intro A' X hX hlim ha
    by_cases hm0 : mm = 0
    · rw [if_pos hm0] at ha
      have h0 : news = [] := List.eq_nil_of_length_eq_zero (by rw [hnews, hm0, Nat.zero_mul])
      exact ⟨_, _, app_zero t t' ty e e' j z (elt_run ht) (elt_run ht') hj hz _ mm news.toArray hlen hfc A' 0 0 hm0 (by rw [h0]) (Nat.le_refl _), good_same hI hX ha⟩
    · rw [if_neg hm0] at ha
      have hgrow := growslice_fits (need := mm) (old := 0) (bytes := j.bytes) (by omega) hlim
      have hmb : mm ≤ mm * j.bytes := Nat.le_mul_of_pos_right _ hby
      have hg := fresh H [] [] hI .nil 0 (grownCap W (0 + mm) 0 e) (grownCap_ge W (0 + mm) 0 e) (by simp) (W.drawn + 1) (by simpa using ha)
      exact ⟨_, _, app_grow t t' ty e e' j z (elt_run ht) (elt_run ht') hj hz _ mm news.toArray hlen hfc A' 0 0 #[] (fun dr => by cases A' <;> simp [Builtin.firstCells, loadCells, loadCellsFrom]) (by omega) (by omega) (by simpa using hgrow), hg⟩
  split at ha
  · -- nil
    obtain ⟨hlim, ha⟩ := ha
    have := hd
    cases this
    exact nilc _ _ hd hlim ha
  · obtain ⟨hlim, ha⟩ := ha
    have := hd
    cases this
    exact nilc _ _ hd hlim ha
  · -- a slice of a block of ours whose capacity is told
    rename_i b o n c'
    split at ha
    case h_2 => exact ha.elim
    rename_i B hB
    obtain ⟨he, hoc, hnc, hlim, ha⟩ := ha
    have hd' := hd
    cases hd' with
    | slc hp hnc2 hcap =>
      rename_i ad p
      have hon : o + n * j.size ≤ B.cells.length := Nat.le_trans (Nat.add_le_add_left (Nat.mul_le_mul_right _ hnc) _) hoc
      obtain ⟨p0, ovs, hp0, hov, hoc2⟩ := hI.reads hB o (n * j.size) hon
      rw [hp] at hp0
      cases hp0
      obtain ⟨p0, hp0, k1, k2, k3, C, et, hC, k4, k5⟩ := hI.blks b B hB
      rw [hp] at hp0
      cases hp0
      have hol : ((B.cells.drop o).take (n * j.size)).length = n * j.size := by simp; omega
      have hovl : ovs.length = n * j.size := by rw [← hov.length, hol]
      by_cases hroom : n + mm ≤ c'
      · rw [if_pos hroom] at ha
        rcases hcap with hc0 | ⟨rfl, hcl⟩
        · have hm0 : mm = 0 := by omega
          have hn0 : n = 0 := by omega
          subst hm0 hn0 hc0
          have h0 : news = [] := List.eq_nil_of_length_eq_zero (by rw [hnews, Nat.zero_mul])
          have hnew0 : new = [] := List.eq_nil_of_length_eq_zero (by rw [hnl, Nat.zero_mul])
          subst hnew0
          have hw := hI.wrAt hB hp hC (o + 0 * j.size) (.nil) (by simp; omega)
          simp only [List.append_nil, List.length_nil, Nat.add_zero, List.take_append_drop, Array.toArray_toList] at hw
          rw [setRow_self W p.g C et (0, 0) hC] at hw
          exact ⟨_, _, app_zero t t' ty e e' j z (elt_run ht) (elt_run ht') hj hz _ 0 news.toArray hlen hfc (some ad) 0 0 rfl (by rw [h0]) (Nat.le_refl _), _, _, _, hd, hw, Ext.refl _, ha⟩
        · have hnm : n * j.size + mm * j.size ≤ c' * j.size := by rw [← Nat.add_mul]; exact Nat.mul_le_mul_right _ hroom
          have hes := k2
          rw [he] at hes
          rw [← hes] at hcl
          have hr := app_room t t' ty e e' j z (elt_run ht) (elt_run ht') hj hz _ mm news.toArray hlen hfc p.g (p.base + o) n c' C et hC (fun u hu => leafs_ok hnv hleaf u (by simpa using hu)) hroom (by simp only [List.size_toArray, hnews]; omega)
          have hw := hI.wrAt hB hp hC (o + n * j.size) hnv (by omega)
          simp only [List.size_toArray, Nat.add_assoc] at hr hw
          exact ⟨_, _, hr, _, _, _, .slc hp hroom (.inr ⟨rfl, by rw [← hes]; exact hcl⟩), hw, Ext.refl _, ha⟩
      · rw [if_neg hroom] at ha
        have hgrow := growslice_fits (need := n + mm) (old := c') (bytes := j.bytes) (by omega) hlim
        have hmb : n + mm ≤ (n + mm) * j.bytes := Nat.le_mul_of_pos_right _ hby
        have hg := fresh H _ ovs hI hov n (grownCap W (n + mm) c' e) (grownCap_ge W (n + mm) c' e) hol (W.drawn + 1) ha
        refine ⟨_, _, app_grow t t' ty e e' j z (elt_run ht) (elt_run ht') hj hz _ mm news.toArray hlen hfc (some ad) n c' ovs.toArray (fun dr => ?_) (by omega) (by omega) hgrow, hg⟩
        rcases hcap with hc0 | ⟨rfl, hcl⟩
        · have hn0 : n = 0 := by omega
          subst hn0
          have : ovs = [] := List.eq_nil_of_length_eq_zero (by rw [hovl, Nat.zero_mul])
          subst this
          simp [Builtin.firstCells, loadCells, loadCellsFrom]
        · have := run_loadCells_list (P := P) { W with drawn := dr } ⟨p.g, p.base + o, none⟩ ovs (fun q u hq => by rw [Addr.add_lit]; exact hoc2 q u hq)
          rw [hovl] at this
          simp only [Builtin.firstCells, this]
  · -- a slice of a block of ours
    rename_i b o n
    split at ha
    case h_2 => exact ha.elim
    rename_i B hB
    obtain ⟨he, hon, hlim, ha⟩ := ha
    cases hd with
    | sl hp hnc hcap =>
      rename_i c' ad p
      obtain ⟨p0, ovs, hp0, hov, hoc⟩ := hI.reads hB o (n * j.size) hon
      rw [hp] at hp0
      cases hp0
      obtain ⟨p0, hp0, k1, k2, k3, C, et, hC, k4, k5⟩ := hI.blks b B hB
      rw [hp] at hp0
      cases hp0
      have hol : ((B.cells.drop o).take (n * j.size)).length = n * j.size := by simp; omega
      have hovl : ovs.length = n * j.size := by rw [← hov.length, hol]
      by_cases hroom : n + mm ≤ c'
      · rcases hcap with hc0 | ⟨rfl, hcl⟩
        · -- no room at all, nothing to append
          have hm0 : mm = 0 := by omega
          have hn0 : n = 0 := by omega
          subst hm0
          subst hn0
          subst hc0
          have h0 : news = [] := List.eq_nil_of_length_eq_zero (by rw [hnews, Nat.zero_mul])
          have hnew0 : new = [] := List.eq_nil_of_length_eq_zero (by rw [hnl, Nat.zero_mul])
          have hren := hI.rename (C' := C) hB hp hC rfl (cells := []) 0 (by simp) (fun q v hq => by simp at hq)
          rw [setRow_self W p.g C et (0, 0) hC] at hren
          rw [hnew0] at ha
          simp only [Nat.zero_mul, List.take_zero, List.append_nil] at ha
          rw [← k2, he] at hren
          exact ⟨_, _, app_zero t t' ty e e' j z (elt_run ht) (elt_run ht') hj hz _ 0 news.toArray hlen hfc (some ad) 0 0 rfl (by rw [h0]) (Nat.le_refl _),
            _, _, _, .sl (updφ_at _ _ _) (Nat.le_refl _) (.inl rfl), hren.1, hren.2, ha⟩
        · have hnm : n * j.size + mm * j.size ≤ c' * j.size := by rw [← Nat.add_mul]; exact Nat.mul_le_mul_right _ hroom
          rw [← k2, he] at hcl
          have hr := app_room t t' ty e e' j z (elt_run ht) (elt_run ht') hj hz _ mm news.toArray hlen hfc p.g (p.base + o) n c' C et hC (fun u hu => leafs_ok hnv hleaf u (by simpa using hu)) hroom (by simp only [List.size_toArray, hnews]; omega)
          have hren := hI.rename (C' := (C.toList.take (p.base + o + n * j.size) ++ news.toArray.toList ++ C.toList.drop (p.base + o + n * j.size + news.toArray.size)).toArray) hB hp hC
            (by simp; omega) (cells := (B.cells.drop o).take (n * j.size) ++ new) o (by rw [List.length_append, hol, hnl]; omega) (fun q v hq => by
              simp only [List.getElem?_toArray]
              rw [List.getElem?_append] at hq
              rw [hol] at hq
              have m2 : min (p.base + o + n * j.size) C.size = p.base + o + n * j.size := by omega
              rw [List.getElem?_append, List.getElem?_append]
              simp only [List.length_append, List.length_take, Array.length_toList, m2, hnews]
              by_cases c1 : q < n * j.size
              · rw [if_pos c1, List.getElem?_take, if_pos c1, List.getElem?_drop] at hq
                rw [if_pos (by omega), if_pos (by omega), List.getElem?_take, if_pos (by omega), Array.getElem?_toList, Nat.add_assoc]
                exact k5 _ v hq
              · rw [if_neg c1] at hq
                have hqn := (List.getElem?_eq_some_iff.1 hq).1
                rw [hnl] at hqn
                rw [if_pos (by omega), if_neg (by omega), show p.base + o + q - (p.base + o + n * j.size) = q - n * j.size from by omega]
                exact hnv.get _ _ hq)
          rw [← k2, he] at hren
          exact ⟨_, _, hr, _, _, _, .sl (updφ_at _ _ _) hroom (.inr ⟨by simp, by simp only; omega⟩), hren.1, hren.2, ha⟩
      · have hgrow := growslice_fits (need := n + mm) (old := c') (bytes := j.bytes) (by omega) hlim
        have hmb : n + mm ≤ (n + mm) * j.bytes := Nat.le_mul_of_pos_right _ hby
        have hg := fresh (H.kill b) _ ovs (hI.kill b) hov n (grownCap W (n + mm) c' e) (grownCap_ge W (n + mm) c' e) hol (W.drawn + 1) ha
        refine ⟨_, _, app_grow t t' ty e e' j z (elt_run ht) (elt_run ht') hj hz _ mm news.toArray hlen hfc (some ad) n c' ovs.toArray (fun dr => ?_) (by omega) (by omega) hgrow, hg⟩
        rcases hcap with hc0 | ⟨rfl, hcl⟩
        · have hn0 : n = 0 := by omega
          subst hn0
          have : ovs = [] := List.eq_nil_of_length_eq_zero (by rw [hovl, Nat.zero_mul])
          subst this
          simp [Builtin.firstCells, loadCells, loadCellsFrom]
        · have := run_loadCells_list (P := P) { W with drawn := dr } ⟨p.g, p.base + o, none⟩ ovs (fun q u hq => by rw [Addr.add_lit]; exact hoc q u hq)
          rw [hovl] at this
          simp only [Builtin.firstCells, this]
  · exact ha.elim
end Go.Proofs.Ythcjolappblieaa.Aw
