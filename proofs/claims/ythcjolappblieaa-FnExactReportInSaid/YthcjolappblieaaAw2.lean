/- The calculus 'Aw', part 2: what each operation does to memory, held against the machine. -/
import Derived.Test.YthcjolappblieaaAw1
import Derived.Laws.Append
import Derived.Laws.Cells
import Derived.Laws.CopyRow
namespace Go.Proofs.Ythcjolappblieaa.Aw
open Go Go.RowKit
set_option linter.unusedVariables false
set_option linter.unusedSimpArgs false

theorem heapNew (w : World) (o : Obj) : ({ w with heap := w.heap.push o } : World).heap[w.heap.size]? = some o := by simp
theorem heapOld (w : World) (o : Obj) (i : Nat) (h : i ≠ w.heap.size) : ({ w with heap := w.heap.push o } : World).heap[i]? = w.heap[i]? := by
  simp only [Array.getElem?_push]
  rw [if_neg h]

def updφ (φ : Phi) (b : Nat) (p : Pl) : Phi := fun b' => if b' = b then some p else φ b'
theorem ext_upd {φ : Phi} {b : Nat} {p : Pl} (h : φ b = none) : Ext φ (updφ φ b p) := by
  intro x q hq
  unfold updφ
  split
  · subst_vars; rw [h] at hq; cases hq
  · exact hq

theorem Inv.heap_lt {W0 W : World} {φ : Phi} {H : AH} (h : Inv W0 φ H W) {b : Nat} {B : Blk} (hb : H.blk b = some B) : ∃ p, φ b = some p ∧ p.g < W.heap.size := by
  obtain ⟨p, hp, _, _, _, C, e, hC, _⟩ := h.blks b B hb
  exact ⟨p, hp, (Array.getElem?_eq_some_iff.1 hC).1⟩

/-- A world whose tape has moved on. -/
theorem Inv.drawn {W0 W : World} {φ : Phi} {H : AH} (h : Inv W0 φ H W) (n : Nat) : Inv W0 φ H { W with drawn := n } :=
  ⟨⟨h.below.os, h.below.tape, h.below.output, h.below.size, h.below.block⟩, h.blks, h.inj, h.wf, h.non⟩

/-- A new block of the machine's that starts with the cells of a new abstract one. -/
theorem Inv.new {W0 W : World} {φ : Phi} {H : AH} (h : Inv W0 φ H W) {cells : List AV} (esz : Nat) {C : Array Value} {e : TypeId}
    (hl : cells.length ≤ C.size) (hc : ∀ (j : Nat) (v : AV), cells[j]? = some v → ∃ y, C[j]? = some y ∧ VR φ v y) :
    Inv W0 (updφ φ H.nxt ⟨W.heap.size, 0, esz, C.size⟩) (H.new cells esz) { W with heap := W.heap.push (.cells C e) } ∧ Ext φ (updφ φ H.nxt ⟨W.heap.size, 0, esz, C.size⟩) := by
  have hx : Ext φ (updφ φ H.nxt ⟨W.heap.size, 0, esz, C.size⟩) := ext_upd (h.non _ (Nat.le_refl _))
  have hold : ∀ b, (H.blk b).isSome = true → b ≠ H.nxt := by
    intro b hb he
    rw [he, h.wf _ (Nat.le_refl _)] at hb
    cases hb
  refine ⟨⟨?_, ?_, ?_, ?_, ?_⟩, hx⟩
  · refine h.below.trans ⟨rfl, rfl, rfl, by simp, fun k hk => heapOld _ _ _ ?_⟩
    have := h.below.size
    omega
  · intro b B hb
    by_cases hbn : b = H.nxt
    · subst hbn
      simp only [AH.new, if_true] at hb
      cases hb
      refine ⟨⟨W.heap.size, 0, esz, C.size⟩, by simp [updφ], h.below.size, rfl, hl, C, e, heapNew _ _, by simp, fun j v hv => ?_⟩
      obtain ⟨y, hy, hv⟩ := hc j v hv
      exact ⟨y, by simpa using hy, hv.ext hx⟩
    · simp only [AH.new, if_neg hbn] at hb
      obtain ⟨p, hp, h1, h2, h3, C', e', hC, h4, h5⟩ := h.blks b B hb
      refine ⟨p, hx _ _ hp, h1, h2, h3, C', e', ?_, h4, fun j v hv => ?_⟩
      · rw [heapOld _ _ _ (Nat.ne_of_lt (Array.getElem?_eq_some_iff.1 hC).1)]
        exact hC
      · obtain ⟨y, hy, hv⟩ := h5 j v hv
        exact ⟨y, hy, hv.ext hx⟩
  · intro b b' p p' hb hb' hp hp' hg
    have key : ∀ b, (H.blk b).isSome = true → ∀ p, updφ φ H.nxt ⟨W.heap.size, 0, esz, C.size⟩ b = some p → φ b = some p ∧ p.g < W.heap.size := by
      intro b hb p hp
      have hbn := hold b hb
      simp only [updφ, if_neg hbn] at hp
      obtain ⟨B, hB⟩ := Option.isSome_iff_exists.1 hb
      obtain ⟨q, hq, hlt⟩ := h.heap_lt hB
      rw [hp] at hq
      cases hq
      exact ⟨hp, hlt⟩
    by_cases hbn : b = H.nxt <;> by_cases hbn' : b' = H.nxt
    · rw [hbn, hbn']
    · subst hbn
      simp only [AH.new, if_neg hbn'] at hb'
      simp only [updφ, if_true] at hp
      cases hp
      have := (key b' hb' p' hp').2
      simp only at hg
      omega
    · subst hbn'
      simp only [AH.new, if_neg hbn] at hb
      simp only [updφ, if_true] at hp'
      cases hp'
      have := (key b hb p hp).2
      simp only at hg
      omega
    · simp only [AH.new, if_neg hbn] at hb
      simp only [AH.new, if_neg hbn'] at hb'
      exact h.inj b b' p p' hb hb' (key b hb p hp).1 (key b' hb' p' hp').1 hg
  · intro b hb
    have : b ≠ H.nxt := by simp [AH.new] at hb; omega
    simp only [AH.new, if_neg this]
    exact h.wf b (by simp [AH.new] at hb; omega)
  · intro b hb
    have : b ≠ H.nxt := by simp [AH.new] at hb; omega
    simp only [updφ, if_neg this]
    exact h.non b (by simp [AH.new] at hb; omega)

/-- Fewer blocks. -/
theorem Inv.kill {W0 W : World} {φ : Phi} {H : AH} (h : Inv W0 φ H W) (b : Nat) : Inv W0 φ (H.kill b) W := by
  have hk : ∀ b' B, (H.kill b).blk b' = some B → H.blk b' = some B := by
    intro b' B hB
    simp only [AH.kill] at hB
    split at hB
    · cases hB
    · exact hB
  refine ⟨h.below, fun b' B hB => h.blks b' B (hk _ _ hB), fun b1 b2 p p' h1 h2 => ?_, fun b' hb' => ?_, h.non⟩
  · obtain ⟨B1, hB1⟩ := Option.isSome_iff_exists.1 h1
    obtain ⟨B2, hB2⟩ := Option.isSome_iff_exists.1 h2
    exact h.inj b1 b2 p p' (by rw [hk _ _ hB1]; rfl) (by rw [hk _ _ hB2]; rfl)
  · simp only [AH.kill]
    split
    · rfl
    · exact h.wf b' hb'

theorem setRowHeap (w : World) (g k : Nat) (C C' : Array Value) (e : TypeId) (hg : w.heap[g]? = some (.cells C e (0, 0))) : (w.setRow g C').heap[k]? = if k = g then some (.cells C' e (0, 0)) else w.heap[k]? := by
  by_cases h : k = g
  · rw [if_pos h, h]; exact setRow_heap w g C C' e _ hg
  · rw [if_neg h]; exact setRow_other w g k _ h

/-- New contents of one block's place; the block stays, or takes another name. -/
theorem Inv.write {W0 W : World} {φ : Phi} {H : AH} (h : Inv W0 φ H W) {b : Nat} {B : Blk} {p : Pl} (hb : H.blk b = some B) (hp : φ b = some p) {C C' : Array Value} {e : TypeId}
    (hC : W.heap[p.g]? = some (.cells C e (0, 0))) (hs : C'.size = C.size) {cells : List AV} (hl : cells.length ≤ p.lim)
    (hc : ∀ (j : Nat) (v : AV), cells[j]? = some v → ∃ y, C'[p.base + j]? = some y ∧ VR φ v y) : Inv W0 φ (H.set b ⟨cells, B.esz⟩) (W.setRow p.g C') := by
  obtain ⟨p0, hp0, h1, h2, h3, C0, e0, hC0, h4, h5⟩ := h.blks b B hb
  rw [hp] at hp0
  cases hp0
  rw [hC] at hC0
  cases hC0
  have hset : ∀ b' B', (H.set b ⟨cells, B.esz⟩).blk b' = some B' → b' ≠ b → H.blk b' = some B' := by
    intro b' B' hB hne
    simpa only [AH.set, if_neg hne] using hB
  have hsome : ∀ b', ((H.set b ⟨cells, B.esz⟩).blk b').isSome = true → (H.blk b').isSome = true := by
    intro b' hB
    by_cases hne : b' = b
    · rw [hne, hb]; rfl
    · simpa only [AH.set, if_neg hne] using hB
  refine ⟨?_, ?_, fun b1 b2 p1 p2 g1 g2 => h.inj b1 b2 p1 p2 (hsome _ g1) (hsome _ g2), fun b' hb' => ?_, h.non⟩
  · refine h.below.trans ⟨rfl, rfl, rfl, by simp [World.setRow], fun k hk => ?_⟩
    rw [setRowHeap W p.g k C C' e hC, if_neg (by omega)]
  · intro b' B' hB'
    by_cases hne : b' = b
    · subst hne
      simp only [AH.set, if_true] at hB'
      cases hB'
      refine ⟨p, hp, h1, h2, hl, C', e, ?_, by omega, hc⟩
      rw [setRowHeap W p.g p.g C C' e hC, if_pos rfl]
    · have hB := hset _ _ hB' hne
      obtain ⟨q, hq, k1, k2, k3, D, f, hD, k4, k5⟩ := h.blks b' B' hB
      refine ⟨q, hq, k1, k2, k3, D, f, ?_, k4, k5⟩
      have : q.g ≠ p.g := fun hg => hne (h.inj b' b q p (by rw [hB]; rfl) (by rw [hb]; rfl) hq hp hg)
      rw [setRowHeap W p.g q.g C C' e hC, if_neg this]
      exact hD
  · by_cases hne : b' = b
    · have := h.wf b' hb'
      rw [hne, hb] at this
      cases this
    · simp only [AH.set, if_neg hne]
      exact h.wf b' hb'

/-- A block takes another name, begins further on, and reads anew. -/
theorem Inv.rename {W0 W : World} {φ : Phi} {H : AH} (h : Inv W0 φ H W) {b : Nat} {B : Blk} {p : Pl} (hb : H.blk b = some B) (hp : φ b = some p) {C C' : Array Value} {e : TypeId}
    (hC : W.heap[p.g]? = some (.cells C e (0, 0))) (hs : C'.size = C.size) {cells : List AV} (o : Nat) (ho : o + cells.length ≤ p.lim)
    (hc : ∀ (j : Nat) (v : AV), cells[j]? = some v → ∃ y, C'[p.base + o + j]? = some y ∧ VR φ v y) :
    Inv W0 (updφ φ H.nxt ⟨p.g, p.base + o, p.esz, p.lim - o⟩) ((H.kill b).new cells p.esz) (W.setRow p.g C') ∧ Ext φ (updφ φ H.nxt ⟨p.g, p.base + o, p.esz, p.lim - o⟩) := by
  obtain ⟨p0, hp0, h1, h2, h3, C0, e0, hC0, h4, h5⟩ := h.blks b B hb
  rw [hp] at hp0
  cases hp0
  rw [hC] at hC0
  cases hC0
  have hx : Ext φ (updφ φ H.nxt ⟨p.g, p.base + o, p.esz, p.lim - o⟩) := ext_upd (h.non _ (Nat.le_refl _))
  have hbn : b ≠ H.nxt := by
    intro he
    rw [he, h.wf _ (Nat.le_refl _)] at hb
    cases hb
  have hold : ∀ b' B', ((H.kill b).new cells p.esz).blk b' = some B' → b' ≠ H.nxt → H.blk b' = some B' ∧ b' ≠ b := by
    intro b' B' hB hne
    have hne' : ¬ b' = (H.kill b).nxt := hne
    simp only [AH.new, if_neg hne'] at hB
    simp only [AH.kill] at hB
    split at hB
    · cases hB
    · exact ⟨hB, by assumption⟩
  refine ⟨⟨?_, ?_, ?_, ?_, ?_⟩, hx⟩
  · refine h.below.trans ⟨rfl, rfl, rfl, by simp [World.setRow], fun k hk => ?_⟩
    rw [setRowHeap W p.g k C C' e hC, if_neg (by omega)]
  · intro b' B' hB'
    by_cases hne : b' = H.nxt
    · subst hne
      have hB2 : ((H.kill b).new cells p.esz).blk H.nxt = some ⟨cells, p.esz⟩ := by simp [AH.new, AH.kill]
      rw [hB2] at hB'
      cases hB'
      refine ⟨⟨p.g, p.base + o, p.esz, p.lim - o⟩, by simp [updφ], h1, rfl, by simp; omega, C', e, ?_, by simp; omega, fun j v hv => ?_⟩
      · rw [setRowHeap W p.g p.g C C' e hC, if_pos rfl]
      · obtain ⟨y, hy, hv⟩ := hc j v hv
        exact ⟨y, hy, hv.ext hx⟩
    · obtain ⟨hB, hnb⟩ := hold _ _ hB' hne
      obtain ⟨q, hq, k1, k2, k3, D, f, hD, k4, k5⟩ := h.blks b' B' hB
      refine ⟨q, hx _ _ hq, k1, k2, k3, D, f, ?_, k4, fun j v hv => ?_⟩
      · have : q.g ≠ p.g := fun hg => hnb (h.inj b' b q p (by rw [hB]; rfl) (by rw [hb]; rfl) hq hp hg)
        rw [setRowHeap W p.g q.g C C' e hC, if_neg this]
        exact hD
      · obtain ⟨y, hy, hv⟩ := k5 j v hv
        exact ⟨y, hy, hv.ext hx⟩
  · intro b1 b2 p1 p2 g1 g2 e1 e2 hg
    obtain ⟨B1, hB1⟩ := Option.isSome_iff_exists.1 g1
    obtain ⟨B2, hB2⟩ := Option.isSome_iff_exists.1 g2
    have look : ∀ b' B' q, ((H.kill b).new cells p.esz).blk b' = some B' → b' ≠ H.nxt → updφ φ H.nxt ⟨p.g, p.base + o, p.esz, p.lim - o⟩ b' = some q → φ b' = some q ∧ q.g ≠ p.g := by
      intro b' B' q hB' hne hq
      obtain ⟨hB, hnb⟩ := hold _ _ hB' hne
      simp only [updφ, if_neg hne] at hq
      exact ⟨hq, fun hg => hnb (h.inj b' b q p (by rw [hB]; rfl) (by rw [hb]; rfl) hq hp hg)⟩
    by_cases n1 : b1 = H.nxt <;> by_cases n2 : b2 = H.nxt
    · rw [n1, n2]
    · subst n1
      simp only [updφ, if_true] at e1
      cases e1
      exact absurd hg.symm (look b2 B2 p2 hB2 n2 e2).2
    · subst n2
      simp only [updφ, if_true] at e2
      cases e2
      exact absurd hg (look b1 B1 p1 hB1 n1 e1).2
    · exact h.inj b1 b2 p1 p2 (by rw [(hold _ _ hB1 n1).1]; rfl) (by rw [(hold _ _ hB2 n2).1]; rfl) (look b1 B1 p1 hB1 n1 e1).1 (look b2 B2 p2 hB2 n2 e2).1 hg
  · intro b' hb'
    have : ¬ b' = (H.kill b).nxt := by simp [AH.new, AH.kill] at hb' ⊢; omega
    simp only [AH.new, if_neg this]
    simp only [AH.kill]
    split
    · rfl
    · exact h.wf b' (by simp [AH.new, AH.kill] at hb'; omega)
  · intro b' hb'
    have : b' ≠ H.nxt := by simp [AH.new, AH.kill] at hb'; omega
    simp only [updφ, if_neg this]
    exact h.non b' (by simp [AH.new, AH.kill] at hb'; omega)

/-- What a block's cells read in the machine. -/
theorem Inv.reads {W0 W : World} {φ : Phi} {H : AH} (h : Inv W0 φ H W) {b : Nat} {B : Blk} (hb : H.blk b = some B) (o n : Nat) (hn : o + n ≤ B.cells.length) :
    ∃ p ys, φ b = some p ∧ VRs φ ((B.cells.drop o).take n) ys ∧ ∀ (j : Nat) (y : Value), ys[j]? = some y → W.cell? ⟨p.g, p.base + o + j, none⟩ = some y := by
  obtain ⟨p, hp, h1, h2, h3, C, e, hC, h4, h5⟩ := h.blks b B hb
  refine ⟨p, ((C.toList.drop (p.base + o)).take n), hp, VRs.mk _ _ ?_ fun j a ha => ?_, fun j y hy => ?_⟩
  · simp; omega
  · have hj : j < n := by
      have := (List.getElem?_eq_some_iff.1 ha).1
      simp at this; omega
    rw [List.getElem?_take, if_pos hj, List.getElem?_drop] at ha
    obtain ⟨y, hy, hv⟩ := h5 _ _ ha
    refine ⟨y, ?_, hv⟩
    rw [List.getElem?_take, if_pos hj, List.getElem?_drop, Array.getElem?_toList, ← hy]
    congr 1
    omega
  · have hj : j < n := by
      have := (List.getElem?_eq_some_iff.1 hy).1
      simp at this; omega
    rw [List.getElem?_take, if_pos hj, List.getElem?_drop, Array.getElem?_toList] at hy
    simp [World.cell?, hC, hy]

theorem rdOld_cells {W0 : World} {a : Addr} {n : Nat} {cs : List Value} (h : rdOld W0 a n = some cs) : cs.length = n ∧ ∀ (j : Nat) (v : Value), cs[j]? = some v → W0.cell? (a.add j) = some v := by
  unfold rdOld at h
  have key : ∀ (l : List Nat) (cs : List Value), l.mapM (fun i => W0.cell? (a.add i)) = some cs → cs.length = l.length ∧ ∀ (j : Nat) (v : Value), cs[j]? = some v → ∃ i, l[j]? = some i ∧ W0.cell? (a.add i) = some v := by
    intro l
    induction l with
    | nil => intro cs h; simp at h; subst h; simp
    | cons i l ih =>
      intro cs h
      simp only [List.mapM_cons] at h
      cases h1 : W0.cell? (a.add i) with
      | none => simp [h1] at h
      | some x =>
        cases h2 : l.mapM (fun i => W0.cell? (a.add i)) with
        | none => simp [h1, h2] at h
        | some xs =>
          simp [h1, h2] at h
          subst h
          obtain ⟨k1, k2⟩ := ih xs h2
          refine ⟨by simp [k1], fun j v hv => ?_⟩
          cases j with
          | zero => simp at hv; subst hv; exact ⟨i, by simp, h1⟩
          | succ j => simpa using k2 j v (by simpa using hv)
  obtain ⟨k1, k2⟩ := key _ cs h
  refine ⟨by simpa using k1, fun j v hv => ?_⟩
  obtain ⟨i, hi, hc⟩ := k2 j v hv
  have : i = j := by
    rw [List.getElem?_range (by have := (List.getElem?_eq_some_iff.1 hv).1; rw [k1] at this; simpa using this)] at hi
    simpa using hi.symm
  exact this ▸ hc

theorem Inv.old {W0 W : World} {φ : Phi} {H : AH} (h : Inv W0 φ H W) {a : Addr} {v : Value} (hc : W0.cell? a = some v) : W.cell? a = some v :=
  (h.below.cell (World.block_lt_of_cell? W0 a hc)).trans hc

/-- Reading through an address. -/
theorem Inv.rd {W0 W : World} {φ : Phi} {H : AH} (h : Inv W0 φ H W) {x : AV} {y : Value} (hx : VR φ x y) {n : Nat} {cs : List AV} (hr : rdCells W0 H n x = some cs) :
    ∃ a ys, y = .pointer (some a) ∧ VRs φ cs ys ∧ cs.length = n ∧ ∀ (j : Nat) (u : Value), ys[j]? = some u → W.cell? (a.add j) = some u := by
  cases hx with
  | v _ =>
    cases y with
    | pointer a =>
      cases a with
      | none => simp [rdCells] at hr
      | some a =>
        simp only [rdCells, Option.map_eq_some_iff] at hr
        obtain ⟨us, hu, rfl⟩ := hr
        obtain ⟨k1, k2⟩ := rdOld_cells hu
        exact ⟨a, us, rfl, VRs.vs us, by simpa using k1, fun j u hj => h.old (k2 j u hj)⟩
    | _ => simp [rdCells] at hr
  | ptr hp =>
    rename_i b o p
    simp only [rdCells, Option.bind_eq_some_iff] at hr
    obtain ⟨B, hB, hr⟩ := hr
    split at hr
    · rename_i hn
      cases hr
      obtain ⟨q, ys, hq, hv, hc⟩ := h.reads hB o n hn
      rw [hp] at hq
      cases hq
      refine ⟨_, ys, rfl, hv, by simp; omega, fun j u hj => ?_⟩
      rw [Addr.add_lit]
      exact hc j u hj
    · cases hr
  | _ => simp [rdCells] at hr

theorem VR.weak {φ : Phi} {b o n c : Nat} {y : Value} (h : VR φ (.slc b o n c) y) : VR φ (.sl b o n) y := by
  cases h with | slc h1 h2 h3 => exact .sl h1 h2 h3
/-- Reading a slice's first elements. -/
theorem Inv.slc1 {W0 W : World} {φ : Phi} {H : AH} (h : Inv W0 φ H W) {x : AV} {y : Value} (hx : VR φ x y) {s n : Nat} {cs : List AV} (hr : slCells W0 H s n x = some cs) (hn : ∀ b o m c, x ≠ .slc b o m c) :
    ∃ (A : Option Addr) (m c : Nat) (ys : List Value), y = .slice A m c ∧ VRs φ cs ys ∧ cs.length = n * s ∧ n ≤ m ∧
      (A = none → n = 0) ∧ ∀ a, A = some a → ∀ (j : Nat) (u : Value), ys[j]? = some u → W.cell? (a.add j) = some u := by
  cases hx with
  | slc _ _ _ => exact absurd rfl (hn _ _ _ _)
  | sl0 a =>
    simp only [slCells] at hr
    split at hr
    · rename_i h0
      cases hr
      subst h0
      exact ⟨a, 0, 0, [], rfl, .nil, by simp, Nat.le_refl _, fun _ => rfl, fun a ha j u hj => by simp at hj⟩
    · cases hr
  | v _ =>
    cases y with
    | slice a m c =>
      cases a with
      | none =>
        simp only [slCells] at hr
        split at hr
        · cases hr
          subst_vars
          exact ⟨none, m, c, [], rfl, .nil, by simp, Nat.zero_le _, fun _ => rfl, fun a ha => by cases ha⟩
        · cases hr
      | some a =>
        simp only [slCells] at hr
        split at hr
        · rename_i hn
          simp only [Option.map_eq_some_iff] at hr
          obtain ⟨us, hu, rfl⟩ := hr
          obtain ⟨k1, k2⟩ := rdOld_cells hu
          exact ⟨some a, m, c, us, rfl, VRs.vs us, by simpa using k1, hn.1, fun h => by (cases h), fun b hb j u hj => by cases hb; exact h.old (k2 j u hj)⟩
        · cases hr
    | _ => simp [slCells] at hr
  | sl hp hc hcap =>
    rename_i b o m c ad p
    simp only [slCells] at hr
    split at hr
    · rename_i hn
      simp only [Option.bind_eq_some_iff] at hr
      obtain ⟨B, hB, hr⟩ := hr
      split at hr
      · rename_i hn2
        cases hr
        obtain ⟨q, ys, hq, hv, hcell⟩ := h.reads hB o (n * s) hn2.2
        rw [hp] at hq
        cases hq
        refine ⟨some ad, m, c, ys, rfl, hv, by simp; omega, hn, fun h => by (cases h), fun a ha j u hj => ?_⟩
        cases ha
        rcases hcap with hc0 | ⟨rfl, _⟩
        · have h0 : n = 0 := by omega
          subst h0
          have hl := hv.length
          simp at hl
          have : ys = [] := List.eq_nil_of_length_eq_zero hl.symm
          subst this
          simp at hj
        · rw [Addr.add_lit]
          exact hcell j u hj
      · cases hr
    · cases hr
  | _ => simp [slCells] at hr
theorem Inv.slc {W0 W : World} {φ : Phi} {H : AH} (h : Inv W0 φ H W) {x : AV} {y : Value} (hx : VR φ x y) {s n : Nat} {cs : List AV} (hr : slCells W0 H s n x = some cs) :
    ∃ (A : Option Addr) (m c : Nat) (ys : List Value), y = .slice A m c ∧ VRs φ cs ys ∧ cs.length = n * s ∧ n ≤ m ∧
      (A = none → n = 0) ∧ ∀ a, A = some a → ∀ (j : Nat) (u : Value), ys[j]? = some u → W.cell? (a.add j) = some u := by
  by_cases hn : ∃ b o m c, x = .slc b o m c
  · obtain ⟨b, o, m, c, rfl⟩ := hn
    exact h.slc1 hx.weak (show slCells W0 H s n (.sl b o m) = some cs from hr) (fun _ _ _ _ h => by cases h)
  · exact h.slc1 hx hr fun b o m c h => hn ⟨b, o, m, c, h⟩

theorem ER.ev {φ : Phi} {e : Env} {a : Act} (h : ER φ e a.tmps) (x : Operand) : VR φ (ev e x) (a.eval x) := by
  cases x with
  | tmp t => exact h t
  | const v => exact .v v
  | global g => exact .dead _
  | func f => exact .fn .nil
theorem ER.ext {φ φ' : Phi} {e : Env} {t : Array Value} (h : ER φ e t) (hx : Ext φ φ') : ER φ' e t := fun i => (h i).ext hx

/-- A value's cells. -/
theorem cells_ok {φ : Phi} {x : AV} {y : Value} (h : VR φ x y) {cs : List AV} (hc : cellsA x = some cs) : VRs φ cs y.cells.toList := by
  cases h with
  | v x => simp only [cellsA, Option.some.injEq] at hc; subst hc; exact VRs.vs _
  | ptr h => simp only [cellsA, Option.some.injEq] at hc; subst hc; exact .cons (.ptr h) .nil
  | sl h1 h2 h3 => simp only [cellsA, Option.some.injEq] at hc; subst hc; exact .cons (.sl h1 h2 h3) .nil
  | slc h1 h2 h3 => simp only [cellsA, Option.some.injEq] at hc; subst hc; exact .cons (.slc h1 h2 h3) .nil
  | sl0 a => simp only [cellsA, Option.some.injEq] at hc; subst hc; exact .cons (.sl0 a) .nil
  | agg h => simp only [cellsA, Option.some.injEq] at hc; subst hc; simpa [Value.cells] using h
  | tup h => simp [cellsA] at hc
  | fn h => simp only [cellsA, Option.some.injEq] at hc; subst hc; exact .cons (.fn h) .nil
  | dead y => simp [cellsA] at hc
theorem leaf_ok {φ : Phi} {x : AV} {y : Value} (h : VR φ x y) (hl : leafA x = true) : y.oneCell' = true := by
  cases h with
  | v x => simp only [leafA] at hl; cases y <;> simp_all [leafV, Value.oneCell']
  | ptr h => rfl
  | sl _ _ _ => rfl
  | slc _ _ _ => rfl
  | sl0 _ => rfl
  | agg h => simp [leafA] at hl
  | tup h => simp [leafA] at hl
  | fn h => rfl
  | dead y => simp [leafA] at hl
theorem leafs_ok {φ : Phi} {l : List AV} {ys : List Value} (h : VRs φ l ys) (hl : l.all leafA = true) : ∀ y ∈ ys, y.oneCell' = true := by
  intro y hy
  obtain ⟨i, hi⟩ := List.mem_iff_getElem?.1 hy
  have hlen := h.length
  have hil : i < l.length := by rw [hlen]; exact (List.getElem?_eq_some_iff.1 hi).1
  obtain ⟨z, hz, hv⟩ := h.get i _ (List.getElem?_eq_getElem hil)
  rw [hi] at hz
  cases hz
  exact leaf_ok hv (by simp only [List.all_eq_true] at hl; exact hl _ (List.getElem_mem hil))
theorem wr_length (l : List AV) (o : Nat) (cs : List AV) (h : o + cs.length ≤ l.length) : (wr l o cs).length = l.length := by
  unfold wr; simp; omega
/-- Some cells of a block are written. -/
theorem Inv.wrAt {W0 W : World} {φ : Phi} {H : AH} (h : Inv W0 φ H W) {b : Nat} {B : Blk} {p : Pl} (hb : H.blk b = some B) (hp : φ b = some p) {C : Array Value} {e : TypeId}
    (hC : W.heap[p.g]? = some (.cells C e (0, 0))) (o : Nat) {new : List AV} {news : List Value} (hv : VRs φ new news) (ho : o + new.length ≤ B.cells.length) :
    Inv W0 φ (H.set b ⟨wr B.cells o new, B.esz⟩) (W.setRow p.g (C.toList.take (p.base + o) ++ news ++ C.toList.drop (p.base + o + news.length)).toArray) := by
  obtain ⟨p0, hp0, k1, k2, k3, C0, e0, hC0, k4, k5⟩ := h.blks b B hb
  rw [hp] at hp0
  cases hp0
  rw [hC] at hC0
  cases hC0
  have hlen := hv.length
  refine h.write hb hp hC (by simp; omega) (by rw [wr_length _ _ _ (by omega)]; exact k3) fun q v hq => ?_
  unfold wr at hq
  simp only [List.getElem?_toArray] at hq ⊢
  simp only [List.getElem?_append, List.length_append, List.length_take, Array.length_toList] at hq ⊢
  have m1 : min o B.cells.length = o := by omega
  have m2 : min (p.base + o) C.size = p.base + o := by omega
  rw [m1] at hq
  rw [m2]
  by_cases c1 : q < o
  · rw [if_pos (by omega), if_pos c1, List.getElem?_take, if_pos c1] at hq
    rw [if_pos (by omega), if_pos (by omega), List.getElem?_take, if_pos (by omega), Array.getElem?_toList]
    exact k5 q v hq
  · by_cases c2 : q < o + new.length
    · rw [if_pos c2, if_neg c1] at hq
      rw [if_pos (by omega), if_neg (by omega), show p.base + q - (p.base + o) = q - o from by omega]
      exact hv.get _ _ hq
    · rw [if_neg c2, List.getElem?_drop] at hq
      rw [if_neg (by omega), List.getElem?_drop, Array.getElem?_toList, show p.base + o + news.length + (p.base + q - (p.base + o + news.length)) = p.base + q from by omega]
      refine k5 q v ?_
      rw [← hq]; congr 1; omega
/-- Cells of the machine's behind a block's that are not told yet. -/
theorem Inv.dead {W0 W : World} {φ : Phi} {H : AH} (h : Inv W0 φ H W) {b : Nat} {B : Blk} {p : Pl} (hb : H.blk b = some B) (hp : φ b = some p) (k : Nat) (hk : B.cells.length + k ≤ p.lim) :
    Inv W0 φ (H.set b ⟨B.cells ++ List.replicate k .dead, B.esz⟩) W := by
  obtain ⟨p0, hp0, k1, k2, k3, C, e, hC, k4, k5⟩ := h.blks b B hb
  rw [hp] at hp0
  cases hp0
  have := h.write hb hp hC rfl (cells := B.cells ++ List.replicate k .dead) (by simpa using hk) fun q v hq => ?_
  · rwa [setRow_self W p.g C e (0, 0) hC] at this
  · rw [List.getElem?_append] at hq
    split at hq
    · exact k5 q v hq
    · rename_i hge
      rw [List.getElem?_replicate] at hq
      split at hq
      · cases hq
        refine ⟨C[p.base + q]'(by omega), by simp, .dead _⟩
      · cases hq
end Go.Proofs.Ythcjolappblieaa.Aw
