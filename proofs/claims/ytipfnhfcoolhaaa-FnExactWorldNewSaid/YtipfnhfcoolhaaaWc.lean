/- What the functions on worlds take over and hand back. -/
import Derived.Test.YtipfnhfcoolhaaaUp
import Derived.Test.YtipfnhfcoolhaaaMs
import Derived.Test.YtipfnhfcoolhaaaFl1
namespace Go.Proofs.Ytipfnhfcoolhaaa.Aw
open Go Go.RowKit
set_option linter.unusedVariables false
set_option linter.unusedSimpArgs false
/-- A world's cells and log, and a job by itself, each owned; the rest of the world stands by. -/
def Sps (H : AH) (S : List Nat) (w : WorldD) (j : JobD) (vc vl : AV) (cj : List AV) : Prop := S.Nodup ∧ ∃ Sc Sl Sj, S = Sc ++ (Sl ++ Sj) ∧ OwnS H Sc vc w.cells ∧ OwnS H Sl vl w.log ∧ Own.own H Sj cj j
/-- A world's cells. -/
def wcs (vc vj vt vl : AV) (w : WorldD) : List AV := [vc, vj, vt, vl, .v (.int .i64 w.serial), .v (.int .i64 w.now)]
/-- What the reference's functions on a world and a job hand back. -/
def SpR (H : AH) (S : List Nat) (vj vt : AV) (p : WorldD × JobD) (r : AV) (H' : AH) : Prop := ∃ vc vl cj S', r = .tup [.agg (wcs vc vj vt vl p.1), .agg cj] ∧ Sps H' S' p.1 p.2 vc vl cj ∧ Upd S H H' S'
theorem Sps.sub {H H' : AH} {S : List Nat} {w : WorldD} {j : JobD} {vc vl : AV} {cj : List AV} (h : Sps H S w j vc vl cj) (hs : Sub H H') : Sps H' S w j vc vl cj := by
  obtain ⟨n, Sc, Sl, Sj, e, h1, h2, h3⟩ := h
  exact ⟨n, Sc, Sl, Sj, e, h1.sub hs, h2.sub hs, Own.sub h3 hs⟩
theorem Sps.eq {H H' : AH} {S : List Nat} {w : WorldD} {j : JobD} {vc vl : AV} {cj : List AV} (h : Sps H S w j vc vl cj) (hs : ∀ b ∈ S, H'.blk b = H.blk b) : Sps H' S w j vc vl cj := by
  obtain ⟨n, Sc, Sl, Sj, rfl, h1, h2, h3⟩ := h
  exact ⟨n, Sc, Sl, Sj, rfl, h1.eq fun b hb => hs b (List.mem_append_left _ hb), h2.eq fun b hb => hs b (List.mem_append_right _ (List.mem_append_left _ hb)), Own.eq h3 fun b hb => hs b (List.mem_append_right _ (List.mem_append_right _ hb))⟩
theorem Sps.isin {H : AH} {S : List Nat} {w : WorldD} {j : JobD} {vc vl : AV} {cj : List AV} (h : Sps H S w j vc vl cj) : ∀ b ∈ S, (H.blk b).isSome = true := by
  obtain ⟨n, Sc, Sl, Sj, rfl, h1, h2, h3⟩ := h
  intro b hb
  rcases List.mem_append.1 hb with hb | hb
  · exact h1.isin b hb
  · rcases List.mem_append.1 hb with hb | hb
    · exact h2.isin b hb
    · exact Own.isin h3 b hb
/-- A job's plain fields anew: its lists stay. -/
theorem Sps.job {H : AH} {S : List Nat} {w : WorldD} {j j' : JobD} {vc vl : AV} {cj cj' : List AV} (h : Sps H S w j vc vl cj) (k : ∀ Sj, Own.own H Sj cj j → Own.own H Sj cj' j') : Sps H S w j' vc vl cj' := by
  obtain ⟨n, Sc, Sl, Sj, e, h1, h2, h3⟩ := h
  exact ⟨n, Sc, Sl, Sj, e, h1, h2, k Sj h3⟩
theorem EvD.own_mk {H : AH} {S : List Nat} {e : EvD} {vr : AV} (h0 : inI64 e.kind) (h1 : inI64 e.who) (h2 : inI64 e.serial) (h3 : inI64 e.tm) (h4 : inI64 e.op.kind) (h5 : e.op.key.size ≤ big) (h6 : inI64 e.op.what) (h7 : inI64 e.op.val) (h8 : inI64 e.code) (h9 : inI64 e.win) (h10 : inI64 e.steps) (h11 : inI64 e.flips) (h12 : OwnS H S vr e.rows) :
    Own.own H S [.v (.int .i64 e.kind), .v (.int .i64 e.who), .v (.int .i64 e.serial), .v (.int .i64 e.tm), .v (.int .i64 e.op.kind), .v (.string e.op.key), .v (.int .i64 e.op.what), .v (.int .i64 e.op.val), .v (.int .i64 e.code), .v (.int .i64 e.win), .v (.int .i64 e.steps), .v (.int .i64 e.flips), vr] e := ⟨vr, S, rfl, rfl, h0, h1, h2, h3, h4, h5, h6, h7, h8, h9, h10, h11, h12⟩
theorem ownS_none {α : Type} [Ob α] [Own α] (H : AH) : OwnS H [] (.v (.slice none 0 0)) ([] : List α) := .inl ⟨rfl, rfl, rfl⟩
theorem inI_z : inI64 0 := by simp only [inI64]; omega
theorem Upd.three {Sc Sl Sl' Sj : List Nat} {H H' : AH} (hw : H.wf) (hn : (Sc ++ (Sl ++ Sj)).Nodup) (hc : ∀ b ∈ Sc, (H.blk b).isSome = true) (hj : ∀ b ∈ Sj, (H.blk b).isSome = true) (g : Upd Sl H H' Sl') : Upd (Sc ++ (Sl ++ Sj)) H H' (Sc ++ (Sl' ++ Sj)) :=
  (g.left hw hj (List.nodup_append.1 hn).2.1).right hw hc hn
/-- What a function hands back, behind writes to blocks of its own. -/
theorem SpR.fin {H H2 H3 : AH} {S S' : List Nat} {vj vt vc vl : AV} {cj : List AV} {p : WorldD × JobD} (hw : H.wf) (g : Upd S H H2 S') (hs : Sps H2 S' p.1 p.2 vc vl cj) (hS : ∀ b ∈ S', b < H.nxt ∨ H.nxt + 4 ≤ b) (hk : ∀ b, (b < H.nxt ∨ H.nxt + 4 ≤ b) → H3.blk b = H2.blk b) (hn : H2.nxt ≤ H3.nxt) : SpR H S vj vt p (.tup [.agg (wcs vc vj vt vl p.1), .agg cj]) H3 :=
  ⟨vc, vl, cj, S', rfl, hs.eq fun b hb => hk b (hS b hb), Nat.le_trans g.1 hn, fun b B hb hB => by rw [hk b (.inl (hw.lt hB))]; exact g.2.1 b B hb hB, g.2.2.1, g.2.2.2⟩
/-- A call of a function that takes over a world's cells and log, and a job. -/
theorem ACallK.spr {P : Program} {W0 : World} {K : Kt} {g : FuncId} {xs : List AV} {H0 H : AH} {S : List Nat} {vj vt : AV} {p : WorldD × JobD} (h : ACalls P W0 g xs H (SpR H S vj vt p)) (hw0 : H0.wf) (hs : Sub H0 H) (hS : ∀ b ∈ S, b < H0.nxt)
    (k : ∀ vc vl cj H1 S1, H1.wf → Sps H1 S1 p.1 p.2 vc vl cj → Upd S H0 H1 S1 → (∀ b B, b ∉ S → H.blk b = some B → H1.blk b = some B) → H.nxt ≤ H1.nxt → (∀ b ∈ S1, b < H0.nxt ∨ H.nxt ≤ b) → K.k (.tup [.agg (wcs vc vj vt vl p.1), .agg cj]) H1) : ACallK (K := K) P W0 g xs H := by
  refine ACallK.of h.cl ?_
  rintro _ H1 ⟨⟨vc, vl, cj, S1, rfl, h1, g1⟩, c1⟩
  exact k vc vl cj H1 S1 c1.1 h1 (g1.start hs) g1.2.1 g1.1 (fun b hb => (g1.2.2.1 b hb).imp (hS b) id)
end Go.Proofs.Ytipfnhfcoolhaaa.Aw
