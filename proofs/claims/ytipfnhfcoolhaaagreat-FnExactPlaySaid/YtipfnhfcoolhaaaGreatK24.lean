/- Parts of a proof: Ms3 Ms4 Ms5 Mp. -/
import Derived.Test.YtipfnhfcoolhaaaGreatK07
import Derived.Test.YtipfnhfcoolhaaaGreatK18
set_option linter.unusedVariables false
set_option linter.unusedSimpArgs false
section
namespace Go.Proofs.YtipfnhfcoolhaaaGreat.Aw
open Go
set_option maxHeartbeats 1000000
def LogBy (t : Nat) (now : Int) (a b : List EvD) : Prop := b = a ∨ ∃ e : EvD, b = a ++ [e] ∧ e.who = t ∧ e.tm = now
def CellBy (a b : List Int) : Prop := b = a ∨ ∃ i n, b = a.set i n
structure StepBy (t : Nat) (w w' : WorldD) : Prop where
  log : LogBy t w'.now w.log w'.log
  cells : CellBy w.cells w'.cells
  jobs : ∃ j, w'.jobs = w.jobs.set t j
  todo : ∃ n, w'.todo = w.todo.set t ⟨(opsAt w t).drop n⟩ ∧ n ≤ (opsAt w t).length ∧ w'.serial = w.serial + n ∧ n ≤ 1
  now : w'.now = w.now ∧ w' = w ∨ w'.now = w.now + 1
end Go.Proofs.YtipfnhfcoolhaaaGreat.Aw
end
section
namespace Go.Proofs.YtipfnhfcoolhaaaGreat.Aw
open Go
set_option maxHeartbeats 1000000
structure CellsBy (j : JobD) (w w' : WorldD) : Prop where
  key : ∀ i, 3 ≤ i → i ≤ 6 → cget w i ≠ 0 → cget w' i = cget w i
  ep : cget w' 0 = cget w 0 ∨ (j.pc = 12 ∧ cget w' 0 = (cget w 0 + 1) % 281474976710656)
end Go.Proofs.YtipfnhfcoolhaaaGreat.Aw
end
section
namespace Go.Proofs.YtipfnhfcoolhaaaGreat.Aw
open Go
set_option maxHeartbeats 1000000
def swapsLeft (w : WorldD) : Int := ((opsAt w 3).length : Int) + (if (jobOf w 3).pc = 12 then 1 else 0)
structure Later (w w' : WorldD) : Prop where
  ok : worldOk w' = true
  log : w.log <+: w'.log
  key : ∀ i, 3 ≤ i → i ≤ 6 → cget w i ≠ 0 → cget w' i = cget w i
  ep : ∀ b, 0 ≤ b → b ≤ 1000 → cget w 0 + swapsLeft w ≤ b → cget w 0 ≤ cget w' 0 ∧ cget w' 0 + swapsLeft w' ≤ b
  now : w.now ≤ w'.now
theorem Later.refl {w : WorldD} (h : worldOk w = true) : Later w w := ⟨h, List.prefix_refl _, fun _ _ _ _ => rfl, fun b _ _ h => ⟨by omega, h⟩, by omega⟩
theorem Later.trans {a b c : WorldD} (h : Later a b) (h' : Later b c) : Later a c :=
  ⟨h'.ok, h.log.trans h'.log, fun i hi hi' hn => by have e := h.key i hi hi' hn; exact (h'.key i hi hi' (by rw [e]; exact hn)).trans e,
   fun n h0 h1 hs => by have e := h.ep n h0 h1 hs; have e' := h'.ep n h0 h1 e.2; exact ⟨by omega, e'.2⟩, by have := h.now; have := h'.now; omega⟩
theorem playTo_append (l l' : List Int) : ∀ w, playTo w (l ++ l') = playTo (playTo w l) l' := by
  induction l with
  | nil => intro w; rfl
  | cons t ts ih => intro w; exact ih _
theorem worldNew_ok {l : List QueueD} (h : todoOk l = true) : worldOk (worldNew l) = true := by
  unfold worldNew
  rw [if_pos h]
  refine worldOk_iff.2 ⟨(by decide : cellsOk (List.replicate 71 0) = true), h, (by decide : (0 : Int) ≤ 0 ∧ (0 : Int) ≤ 1000000), (by decide : (0 : Int) ≤ 0 ∧ (0 : Int) ≤ 1000000000), by simp, fun t ht => ?_⟩
  show jobAt t (List.replicate 4 job0)[t] = true
  rw [List.getElem_replicate]
  exact jobAt_iff.2 (.inl rfl)
end Go.Proofs.YtipfnhfcoolhaaaGreat.Aw
end
section
namespace Go.Proofs.YtipfnhfcoolhaaaGreat.Aw
open Go Go.RowKit
set_option maxRecDepth 100000
set_option maxHeartbeats 4000000
attribute [-go_sem] wr_eq
structure Kept (w c : WorldD) (i : Nat) : Prop where
  ok : worldOk c = true
  lb : LB (9000000 + i) c
  cnt : cntL c.log ≤ cntL w.log + 60 * i
theorem Kept.start {w : WorldD} (h : worldOk w = true) (hl : LB 9000000 w) : Kept w w 0 := ⟨h, hl, by omega⟩
theorem Kept.step {w c : WorldD} {i t : Nat} (h : Kept w c i) (ht : t < 4) : Kept w (stepD c t) (i + 1) := ⟨stepD_ok h.ok ht, by have := stepD_lb h.ok ht h.lb; exact this, by have := stepD_cnt h.ok ht; have := h.cnt; omega⟩
theorem Kept.stepS {w c : WorldD} {i : Nat} {t : Int} (h : Kept w c i) : Kept w (stepS c t) (i + 1) := by
  unfold Aw.stepS
  split
  · exact h.step (by omega)
  · exact ⟨h.ok, h.lb.le (by omega), by have := h.cnt; omega⟩
theorem Kept.wb {w c : WorldD} {i : Nat} (h : Kept w c i) (hi : i ≤ 10000) : WB c := wb_of h.ok (h.lb.le (by omega))
theorem finishTo_idle {c : WorldD} (h : idle c = true) (k : Nat) : ∀ f, finishTo c k f = c
  | 0 => rfl
  | f + 1 => by unfold finishTo; rw [if_pos h]
theorem finishTo_go {c : WorldD} (h : ¬ idle c = true) {k : Nat} (hk : k < 4000) : finishTo c k (4000 - k) = finishTo (stepD c (k % 4)) (k + 1) (4000 - (k + 1)) := by
  rw [show 4000 - k = (4000 - (k + 1)) + 1 by omega]
  show (if idle c = true then c else finishTo (stepD c (k % 4)) (k + 1) (4000 - (k + 1))) = _
  rw [if_neg h]
theorem playTo_snoc (l : List Int) (t : Int) (w : WorldD) : playTo w (l ++ [t]) = stepS (playTo w l) t := by rw [playTo_append]; rfl
theorem kept_rounds {w : WorldD} (h : worldOk w = true) (hl : LB 9000000 w) : ∀ i, Kept w (roundsTo w i) i
  | 0 => Kept.start h hl
  | i + 1 => (kept_rounds h hl i).step (Nat.mod_lt _ (by omega))
theorem kept_play {w : WorldD} (h : worldOk w = true) (hl : LB 9000000 w) (l : List Int) : Kept w (playTo w l) l.length := by
  suffices hh : ∀ (l : List Int) (c : WorldD) (i : Nat), Kept w c i → Kept w (playTo c l) (i + l.length) by
    have := hh l w 0 (Kept.start h hl); rwa [Nat.zero_add] at this
  intro l
  induction l with
  | nil => intro c i hc; exact hc
  | cons t l ih => intro c i hc; rw [List.length_cons, show i + (l.length + 1) = (i + 1) + l.length by omega]; exact ih _ _ hc.stepS
theorem kept_finish {w : WorldD} : ∀ (f k : Nat) (c : WorldD), Kept w c k → ∃ n, n ≤ k + f ∧ Kept w (finishTo c k f) n
  | 0, k, c, h => ⟨k, by omega, h⟩
  | f + 1, k, c, h => by
    unfold finishTo
    split
    · exact ⟨k, by omega, h⟩
    · obtain ⟨n, h1, h2⟩ := kept_finish f (k + 1) _ (h.step (Nat.mod_lt _ (by omega)))
      exact ⟨n, by omega, h2⟩
theorem cnt_kept {w c : WorldD} {i : Nat} (h : Kept w c i) (hi : i ≤ 10000) (hz : cntL w.log ≤ 20971520) : Mk.cnt c ≤ 1000000000 := by
  have := cnt_ok h.ok; have := h.cnt; omega
theorem cnt_rounds {w : WorldD} {n : Int} (h : Ob.sz w ≤ 1048576) (hl : LB 9000000 w) : Mk.cnt (roundsD w n) ≤ 1000000000 := by
  unfold roundsD
  split
  · rename_i hok; exact cnt_kept (kept_rounds hok hl _) (by omega) (sz_log' h)
  · have := cnt_le_V h; omega
theorem cnt_finish {w : WorldD} (h : Ob.sz w ≤ 1048576) (hl : LB 9000000 w) : Mk.cnt (finishD w) ≤ 1000000000 := by
  unfold finishD
  split
  · rename_i hok
    obtain ⟨n, h1, h2⟩ := kept_finish 4000 0 w (Kept.start hok hl)
    exact cnt_kept h2 (by omega) (sz_log' h)
  · have := cnt_le_V h; omega
theorem worldNew_okS {l : List QueueD} (h : ¬ todoOk l = true) (p : List Int) : playTo (worldNew l) p = worldNew l := by
  have hn : ¬ worldOk (worldNew l) = true := by
    intro hk
    have := (worldOk_iff.1 hk).2.2.2.2.1
    unfold worldNew at this; rw [if_neg h] at this; cases this
  induction p with
  | nil => rfl
  | cons t p ih =>
    show playTo (stepS (worldNew l) t) p = _
    rw [show stepS (worldNew l) t = worldNew l by unfold stepS; rw [if_neg (fun k => hn k.1)]]; exact ih
theorem worldNew_lb (l : List QueueD) : LB 9000000 (worldNew l) := by
  unfold worldNew; split <;> exact ⟨Nat.zero_le _, fun e he => by cases he⟩
theorem cnt_play (x : ScriptD) : Mk.cnt (playD x) ≤ 1000000000 := by
  unfold playD
  by_cases h : todoOk x.todo = true
  · have hk := kept_play (worldNew_ok h) (worldNew_lb x.todo) (x.picks.take 500)
    refine cnt_kept hk (by simp; omega) ?_
    unfold worldNew; rw [if_pos h]; exact Nat.zero_le _
  · rw [worldNew_okS h]; unfold worldNew; rw [if_neg h]; exact (by decide : (0 : Nat) + 0 + 0 + 0 ≤ 1000000000)
theorem worldNew_wb (l : List QueueD) : WB (worldNew l) := by
  by_cases h : todoOk l = true
  · exact wb_of (worldNew_ok h) ((worldNew_lb l).le (by omega))
  · unfold worldNew; rw [if_neg h]; exact ⟨Nat.zero_le _, Nat.zero_le _, (fun _ h => by cases h), Nat.zero_le _, (fun _ h => by cases h), Nat.zero_le _, (fun _ h => by cases h)⟩
theorem play_wb (q : List QueueD) (l : List Int) (hl : l.length ≤ 1000) : WB (playTo (worldNew q) l) := by
  by_cases h : todoOk q = true
  · exact (kept_play (worldNew_ok h) (worldNew_lb q) l).wb (by omega)
  · rw [worldNew_okS h]; exact worldNew_wb q
end Go.Proofs.YtipfnhfcoolhaaaGreat.Aw
end
