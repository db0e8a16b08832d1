/- What stays beside blocks that are taken over. -/
import Derived.Test.YtipfnhfcoolhaaaBC
namespace Go.Proofs.Ytipfnhfcoolhaaa.Aw
open Go Go.RowKit
set_option linter.unusedVariables false
theorem Upd.left {S S' T : List Nat} {H H' : AH} (hw : H.wf) (hT : ∀ b ∈ T, (H.blk b).isSome = true) (hn : (S ++ T).Nodup) (h : Upd S H H' S') : Upd (S ++ T) H H' (S' ++ T) := by
  obtain ⟨n1, n2, n3⟩ := List.nodup_append.1 hn
  refine ⟨h.1, fun b B hb hB => h.2.1 b B (fun hm => hb (List.mem_append_left _ hm)) hB, fun b hb => ?_, List.nodup_append.2 ⟨h.2.2.2, n2, fun a ha b hb hab => ?_⟩⟩
  · rcases List.mem_append.1 hb with hb | hb
    · exact (h.2.2.1 b hb).imp (List.mem_append_left _) id
    · exact .inl (List.mem_append_right _ hb)
  · subst hab
    rcases h.2.2.1 a ha with h1 | h1
    · exact n3 a h1 a hb rfl
    · have := hw.lt' (hT a hb); omega
theorem Upd.right {S S' T : List Nat} {H H' : AH} (hw : H.wf) (hT : ∀ b ∈ T, (H.blk b).isSome = true) (hn : (T ++ S).Nodup) (h : Upd S H H' S') : Upd (T ++ S) H H' (T ++ S') := by
  obtain ⟨n1, n2, n3⟩ := List.nodup_append.1 hn
  refine ⟨h.1, fun b B hb hB => h.2.1 b B (fun hm => hb (List.mem_append_right _ hm)) hB, fun b hb => ?_, List.nodup_append.2 ⟨n1, h.2.2.2, fun a ha b hb hab => ?_⟩⟩
  · rcases List.mem_append.1 hb with hb | hb
    · exact .inl (List.mem_append_left _ hb)
    · exact (h.2.2.1 b hb).imp (List.mem_append_right _) id
  · subst hab
    rcases h.2.2.1 a hb with h1 | h1
    · exact n3 a ha a h1 rfl
    · have := hw.lt' (hT a ha); omega
/-- Blocks that are no longer told. -/
theorem Upd.less {S S' S'' : List Nat} {H H' : AH} (h : Upd S H H' S') (hs : ∀ b ∈ S'', b ∈ S') (hn : S''.Nodup) : Upd S H H' S'' := ⟨h.1, h.2.1, fun b hb => h.2.2.1 b (hs b hb), hn⟩
/-- Behind blocks that were new. -/
theorem Upd.then {S S' S'' : List Nat} {H H' H'' : AH} (hw : H.wf) (h : Upd S H H' S') (k : Upd S' H' H'' S'') : Upd S H H'' S'' := h.trans hw k
theorem Upd.end {S S' : List Nat} {H H1 H' : AH} (h : Upd S H H1 S') (hs : Sub H1 H') : Upd S H H' S' := ⟨Nat.le_trans h.1 hs.1, fun b B hb hB => hs.2 b B (h.2.1 b B hb hB), h.2.2.1, h.2.2.2⟩
/-- A block of one's own that is new is written. -/
theorem Upd.setNew {S S' : List Nat} {H H' : AH} {b : Nat} (hw : H.wf) (h : Upd S H H' S') (hb : H.nxt ≤ b) (B : Blk) : Upd S H (H'.set b B) S' :=
  ⟨h.1, fun x B' hx hB => by rw [blk_set_ne _ (by rintro rfl; have := hw.lt hB; omega)]; exact h.2.1 x B' hx hB, h.2.2.1, h.2.2.2⟩
/-- A call that takes over blocks of a memory of before; what was laid since then stays. -/
theorem ACallK.upd {P : Program} {W0 : World} {K : Kt} {g : FuncId} {xs : List AV} {H0 H : AH} {S : List Nat} {R : AV → AH → List Nat → Prop} (h : ACalls P W0 g xs H (fun u H' => ∃ S', R u H' S' ∧ Upd S H H' S')) (hw0 : H0.wf) (hs : Sub H0 H) (hS : ∀ b ∈ S, b < H0.nxt)
    (k : ∀ u H1 S1, H1.wf → R u H1 S1 → Upd S H0 H1 S1 → (∀ b B, H0.nxt ≤ b → H.blk b = some B → H1.blk b = some B) → H.nxt ≤ H1.nxt → (∀ b ∈ S1, b < H0.nxt ∨ H.nxt ≤ b) → (∀ b B, b ∉ S → H.blk b = some B → H1.blk b = some B) → K.k u H1) : ACallK (K := K) P W0 g xs H := by
  refine ACallK.of h.cl ?_
  rintro u H1 ⟨⟨S1, r1, g1⟩, c1⟩
  exact k u H1 S1 c1.1 r1 (g1.start hs) (fun b B hb hB => g1.2.1 b B (fun hm => by have := hS b hm; omega) hB) g1.1 (fun b hb => (g1.2.2.1 b hb).imp (hS b) id) g1.2.1
/-- A goal that is put by. -/
structure Hid (p : Prop) : Prop where
  out : p
theorem adraw_cut {P : Program} {W0 : World} {ops : Array Oper} {Q' : Env → AH → Prop} {e : Env} {H : AH} (Q : Env → AH → Prop) (h : Hid (adraw P W0 ops Q e H)) (k : Hid (∀ e' H', Q e' H' → Q' e' H')) : adraw P W0 ops Q' e H := adraw_mono k.out h.out
theorem ModelD.own_mk {H : AH} {vk vr : AV} {S T : List Nat} {ks : List KRowD} {rs : List RowD} (h : OwnS H S vk ks) (k : OwnS H T vr rs) : Own.own H (S ++ T) [vk, vr] (⟨ks, rs⟩ : ModelD) := ⟨vk, vr, S, T, rfl, rfl, h, k⟩
end Go.Proofs.Ytipfnhfcoolhaaa.Aw
