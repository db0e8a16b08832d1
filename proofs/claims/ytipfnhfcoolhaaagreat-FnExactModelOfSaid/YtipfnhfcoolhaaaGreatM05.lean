/- Parts of a proof: Fp Fbs Fa Fk Fl Fb. -/
import Derived.Test.YtipfnhfcoolhaaaGreatM02
import Derived.Test.YtipfnhfcoolhaaaGreatM04
import Derived.Test.YtipfnhfcoolhaaaGreatM03
import Derived.Test.YtipfnhfcoolhaaaGreatM01
import Derived.Laws.BitsAllLaws
import Derived.Laws.BitsLemmas
set_option linter.unusedVariables false
set_option linter.unusedSimpArgs false
section
namespace Go.Proofs.YtipfnhfcoolhaaaGreat.Aw
open Go Go.RowKit
set_option maxRecDepth 100000
set_option maxHeartbeats 2000000
attribute [-go_sem] wr_eq
theorem all_encL {α : Type} [Ob α] [Own α] [Flat α] {xs : List α} (h : ∀ x ∈ xs, Flat.ok x) : (encL xs).all leafA = true := (Owns.ofFlat (⟨fun _ => none, 0⟩ : AH) h).reps (W0 := default) |>.leaf
theorem wr_at {A B C : List AV} {p : Nat} (hp : A.length = p) {cs : List AV} (hc : cs.length = B.length) : wr (A ++ (B ++ C)) p cs = A ++ (cs ++ C) := by
  subst hp
  simp [wr, hc]
theorem cut3 {L : List AV} {o m : Nat} (h : o + m ≤ L.length) : ∃ A B C, L = A ++ (B ++ C) ∧ A.length = o ∧ B = (L.drop o).take m ∧ B.length = m := by
  refine ⟨L.take o, (L.drop o).take m, (L.drop o).drop m, ?_, by simp; omega, rfl, by simp; omega⟩
  rw [List.take_append_drop, List.take_append_drop]
theorem cut2 {L : List AV} {m : Nat} (h : m ≤ L.length) : ∃ A B, L = A ++ B ∧ A.length = m := ⟨L.take m, L.drop m, (List.take_append_drop m L).symm, by simp; omega⟩
theorem dt_mid {A B C : List AV} {p m : Nat} (hp : A.length = p) (hm : B.length = m) : ((A ++ (B ++ C)).drop p).take m = B := by
  subst hp hm; simp
theorem elt_int : elt Tryz.prog 3 = none := by kernel_rfl
attribute [go_sem] elt_int
theorem overRowD_ok (W0 : World) {a1 a2 : AV} {H : AH} {b o n b' o' n' : Nat} {B B' : Blk} (h1 : slBlk a1 = some (b, o, n)) (h2 : slBlk a2 = some (b', o', n')) (hne : b ≠ b') (hB : H.blk b = some B) (hB' : H.blk b' = some B') : AExt Tryz.prog W0 262 [a1, a2] H (fun v H' => v = .v (.bool false) ∧ H' = H) :=
  over_ext (fn := Tryz.f262) (t := 24) (el := 71) Tryz.func262 (by kernel_rfl) (by kernel_rfl) (by kernel_rfl) (by kernel_rfl) (by kernel_rfl) elt_24 tyi_71 h1 h2 hne hB hB'
theorem InsertRowD_ok (W0 : World) (v : AV) (l : List RowD) (r : RowD) (i bv : Nat) (S : List Nat) (H : AH) (ho : OwnS H S v l) (hi : i ≤ l.length) (hl : l.length ≤ 1000000) (hr : Flat.ok r) (hbv : H.blk bv = some ⟨Flat.enc r, 10⟩) (hd : bv ∉ S) :
    ACalls Tryz.prog W0 225 [v, .v (.int .i64 i), .sl bv 0 1] H (fun u H' => ∃ S', OwnS H' S' u (l.take i ++ r :: l.drop i) ∧ Upd S H H' S') := by
  have hrl : (Flat.enc r).length = 10 := enc_len hr
  have hleaf : (Flat.enc r).all leafA = true := by have := all_encL (xs := [r]) (by simpa using hr); simpa [encL] using this
  have hoks : (∀ x ∈ l, Flat.ok x) → ∀ x ∈ l.take i ++ r :: l.drop i, Flat.ok x := by
    intro h x hx
    rcases List.mem_append.1 hx with hx | hx
    · exact h x (List.mem_of_mem_take hx)
    · rcases List.mem_cons.1 hx with rfl | hx
      · exact hr
      · exact h x (List.mem_of_mem_drop hx)
  have hlen : (l.take i ++ r :: l.drop i).length = l.length + 1 := by simp; omega
  have hnew : ∀ (H' : AH), H'.blk bv = some ⟨Flat.enc r, 10⟩ → slCells W0 H' 10 1 (.sl bv 0 1) = some (Flat.enc r) := by
    intro H' h
    simp only [slCells, Nat.le_refl, if_true, h, Option.bind_some, Nat.zero_add, Nat.one_mul, true_and, hrl, List.drop_zero]
    rw [List.take_of_length_le (by omega)]
  rcases ho.flat with ⟨rfl, rfl, rfl⟩ | ⟨b, o, cs, rfl, hB, hle, hbig, rfl, hcs, hok⟩
  · have hi0 : i = 0 := by simpa using hi
    subst hi0
    refine acallw Tryz.func225 rfl (by kernel_rfl) (by kernel_rfl) fun hc hw => ?_
    repeat' (first | simp -implicitDefEqProofs only [go_sem] | (refine app_nil (hnew _ (by assumption)) rfl hleaf (by decide) (fun h => absurd h (by decide)) (fun _ => ?_)) | refine acond_decF (by omega) ?_ | (with_reducible refine And.intro (by omega) ?_) | refine And.intro (by omega) (And.intro (by omega) ?_) | fail)
    refine retK_one ⟨[H.nxt], OwnS.ofFlat (cs := Flat.enc r) (by simp only [go_sem]; rfl) ?_ ?_ (by simp [big]) (by simpa using hr) rfl, Upd.ofSub (Sub.new hw (Sub.refl _) _ _) ⟨by simp, by simp⟩⟩
    · simp only [List.drop_zero, List.length_singleton, Nat.one_mul, encL, List.map_cons, List.map_nil, List.flatten_cons, List.flatten_nil, List.append_nil]; exact List.take_of_length_le (Nat.le_of_eq hrl)
    · simp [Ob.n, hrl]
  have hbne : bv ≠ b := by simpa using hd
  refine ACalls.wk (R := fun u H' => ∃ u' S', Wk u u' ∧ OwnS H' S' u' (l.take i ++ r :: l.drop i) ∧ Upd [b] H H' S') (acalls_cap (by kernel_rfl) hB hle fun c k hnc hck => ?_) (fun u H' ⟨u', S', k1, k2, k3⟩ => ⟨u', k1, S', k2, k3⟩)
  have hE1 : (encL (l.take i)).length = i * 10 := by rw [encL_len (fun x hx => hok x (List.mem_of_mem_take hx))]; simp [Ob.n]; omega
  have hE2 : (encL (l.drop i)).length = (l.length - i) * 10 := by rw [encL_len (fun x hx => hok x (List.mem_of_mem_drop hx))]; simp [Ob.n]
  have hok1 : ∀ x ∈ l.take i, Flat.ok x := fun x hx => hok x (List.mem_of_mem_take hx)
  have hok2 : ∀ x ∈ l.drop i, Flat.ok x := fun x hx => hok x (List.mem_of_mem_drop hx)
  have hEE : encL l = encL (l.take i) ++ encL (l.drop i) := by rw [← encL_append, List.take_append_drop]
  have hER : encL (l.take i ++ r :: l.drop i) = encL (l.take i) ++ (Flat.enc r ++ encL (l.drop i)) := by rw [encL_append, encL_cons]
  simp only [Ob.n] at hB hle hcs hck
  obtain ⟨A, D, hCS, hA, hDl⟩ : ∃ A D, cs ++ List.replicate k AV.dead = A ++ (encL (l.take i) ++ (encL (l.drop i) ++ D)) ∧ A.length = o ∧ o + c * 10 ≤ o + l.length * 10 + D.length := by
    obtain ⟨A, B, C, h1, h2, h3, h4⟩ := cut3 hle
    refine ⟨A, C ++ List.replicate k AV.dead, ?_, h2, ?_⟩
    · rw [← List.append_assoc (encL _), ← hEE, ← hcs, ← h3, h1]; simp
    · have := congrArg List.length h1
      simp only [List.length_append, List.length_replicate] at this hck ⊢
      omega
  rw [show (Ob.n RowD) = 10 from rfl, hCS]
  have hCl : (A ++ (encL (l.take i) ++ (encL (l.drop i) ++ D))).length = o + l.length * 10 + D.length := by
    simp only [List.length_append, hA, hE1, hE2, Nat.sub_mul]
    have : i * 10 ≤ l.length * 10 := Nat.mul_le_mul_right _ hi
    omega
  generalize hgc : A ++ (encL (l.take i) ++ (encL (l.drop i) ++ D)) = CS at *
  have hsrc : ∀ (H' : AH), H'.blk b = some ⟨CS, 10⟩ → ∀ q, slCells W0 H' 10 (l.length - i) (.slc b (o + i * 10) (l.length - i) q) = some (encL (l.drop i)) := by
    intro H' h q
    have h1 : o + i * 10 + (l.length - i) * 10 ≤ CS.length := by rw [hCl, Nat.sub_mul]; have : i * 10 ≤ l.length * 10 := Nat.mul_le_mul_right _ hi; omega
    simp only [slCells, Nat.le_refl, if_true, h, Option.bind_some, true_and]
    rw [if_pos h1, ← hgc, ← List.append_assoc, dt_mid (by simp [hA, hE1]) hE2]
  refine acallw Tryz.func225 rfl (by kernel_rfl) (by kernel_rfl) fun hc hw => ?_
  rcases Nat.lt_or_ge i l.length with hlt | hge
  · have hwr : IntKind.i64.wrap ((l.length : Int) + ((1 : Nat) : Int)) = ((l.length + 1 : Nat) : Int) := by rw [wrap_in _ (by omega) (by omega)]; simp
    have hwi : IntKind.i64.wrap ((i : Int) + ((1 : Nat) : Int)) = ((i + 1 : Nat) : Int) := by rw [wrap_in _ (by omega) (by omega)]; simp
    have hwm : IntKind.i64.wrap (((l.length + 1 : Nat) : Int) - (i : Int)) = ((l.length + 1 - i : Nat) : Int) := by rw [wrap_in _ (by omega) (by omega)]; omega
    have hln : i + (l.length + 1 - i) = l.length + 1 := by omega
    obtain ⟨z, hz, hty⟩ : ∃ z, z.length = 10 ∧ tyi Tryz.prog 71 = some ⟨true, 10, 88, z⟩ := ⟨_, rfl, tyi_71⟩
    have htk : (CS.drop o).take (i * 10) = encL (l.take i) := by rw [← hgc, ← hA, List.drop_left, ← hE1, List.take_left]
    obtain ⟨Z1, Z2, hZ, hZ1, hZ2⟩ : ∃ Z1 Z2, (CS.drop o).take (i * 10) ++ zerosA z (l.length + 1 - i) = encL (l.take i) ++ (Z1 ++ Z2) ∧ Z1.length = 10 ∧ Z2.length = (l.length - i) * 10 := by
      refine ⟨(zerosA z (l.length + 1 - i)).take 10, (zerosA z (l.length + 1 - i)).drop 10, by rw [htk, List.take_append_drop], ?_, ?_⟩ <;> simp only [List.length_take, List.length_drop, zerosA_length, hz]
      · rw [Nat.min_eq_left]; rw [show l.length + 1 - i = (l.length - i) + 1 by omega, Nat.add_mul]; omega
      · rw [show l.length + 1 - i = (l.length - i) + 1 by omega, Nat.add_mul]; omega
    have hm1 : min 1 (l.length + 1 - i) = 1 := by omega
    have hm2 : min (l.length - i) (l.length + 1 - (i + 1)) = l.length - i := by omega
    have hwr2 : ∀ Z : List AV, Z.length = (l.length - i) * 10 → wr (encL (l.take i) ++ (Flat.enc r ++ Z)) ((i + 1) * 10) (encL (l.drop i)) = encL (l.take i) ++ (Flat.enc r ++ encL (l.drop i)) := fun Z hZl => by
      have h := wr_at (A := encL (l.take i) ++ Flat.enc r) (B := Z) (C := []) (p := (i + 1) * 10) (by rw [List.length_append, hE1, hrl, Nat.add_mul, Nat.one_mul]) (cs := encL (l.drop i)) (hE2.trans hZl.symm)
      simpa using h
    have hbvn : bv ≠ H.nxt := fun h => by have h2 := hw.lt ((blk_set_ne H hbne ⟨CS, 10⟩).trans hbv); rw [h] at h2; exact absurd h2 (Nat.lt_irrefl _)
    have hbm : b ≠ H.nxt := fun h => by have h2 := hw.lt (blk_set_self H b ⟨CS, 10⟩); rw [h] at h2; exact absurd h2 (Nat.lt_irrefl _)
    repeat' (first | simp -implicitDefEqProofs only [go_sem] | (rw [hwr]) | (rw [hwi]) | (rw [hwm]) | (simp only [Nat.sub_zero, Int.toNat_natCast]) | refine acond_decF (by omega) ?_ | refine acond_dec (fun _ => ?_) (fun _ => ?_) | (with_reducible refine And.intro (by omega) ?_) | fail)
    · refine appz_slc hty (blk_set_self _ _ _) (by simp only; omega) (by omega) (by simp only; omega) (by omega) ?_ (by simp only; decide) (by simp only; decide) hz
      simp only [hln, hZ]
      repeat' (first | simp -implicitDefEqProofs only [go_sem] | (with_reducible refine And.intro (by omega) ?_) | fail)
      refine copy_rule (cs := encL (l.take i) ++ (Z1 ++ Z2)) (new := Flat.enc r) ?_ ?_ hleaf ?_ ?_
      · simp only [go_sem]
      · rw [hm1]; exact hnew _ (by simp only [go_sem, if_neg hbvn, if_neg hbne, hbv])
      · simp only [List.length_append, hE1, hZ1, hZ2, Nat.sub_mul, Nat.add_mul]
        have : i * 10 ≤ l.length * 10 := Nat.mul_le_mul_right _ hi
        omega
      rw [wr_at hE1 (hrl.trans hZ1.symm)]
      repeat' (first | simp -implicitDefEqProofs only [go_sem] | (simp only [if_neg hbm]) | (rw [hwi]) | (simp only [Int.toNat_natCast, hln]) | ((with_reducible refine adraw_seq ?_ ?_ ?_); (· kernel_rfl); (· decide +kernel)) | (with_reducible refine And.intro (by omega) ?_) | fail)
      refine copy_rule (cs := encL (l.take i) ++ (Flat.enc r ++ Z2)) (new := encL (l.drop i)) ?_ ?_ (all_encL hok2) ?_ ?_
      · simp only [go_sem]
      · rw [hm2]; exact hsrc _ (by simp only [go_sem, if_neg hbm]) _
      · simp only [List.length_append, hE1, hrl, hZ2, Nat.sub_mul, Nat.add_mul]
        have : i * 10 ≤ l.length * 10 := Nat.mul_le_mul_right _ hi
        omega
      rw [hwr2 _ hZ2]
      repeat' (first | simp -implicitDefEqProofs only [go_sem])
      refine retK_one ⟨_, [H.nxt], Wk.refl _, OwnS.ofFlat (cs := encL (l.take i) ++ (Flat.enc r ++ encL (l.drop i))) (by simp only [go_sem]; rfl) ?_ ?_ (by simp only [big]; omega) (hoks hok) (by omega), Nat.le_succ _, ?_, ?_, by simp⟩
      · rw [← hER, List.drop_zero]; exact List.take_of_length_le (by rw [encL_len (hoks hok)]; exact Nat.le_refl _)
      · rw [← hER, encL_len (hoks hok)]; omega
      · intro x B hx hB2
        have hxb : x ≠ b := by simpa using hx
        have hxn : x ≠ H.nxt := fun h => by have h2 := hw.lt ((blk_set_ne H hxb ⟨CS, 10⟩).trans hB2); rw [h] at h2; exact absurd h2 (Nat.lt_irrefl _)
        simp only [go_sem, if_neg hxb, if_neg hxn, hB2]
      · intro x hx; exact .inr (by simp at hx; omega)
    · refine ACallK.ofE (overRowD_ok _ rfl rfl hbne (by rw [blk_set_ne _ hbne]; exact hbv) (blk_set_self _ _ _)) ?_
      rintro _ _ ⟨rfl, rfl⟩
      have hcn : l.length + 1 ≤ c := by omega
      obtain ⟨E1, E2, E3, hE, e1, -, e3⟩ := cut3 (L := encL (l.drop i) ++ D) (o := 10) (m := (l.length - i) * 10) (by rw [List.length_append, hE2]; omega)
      have hCS2 : CS = A ++ (encL (l.take i) ++ (E1 ++ (E2 ++ E3))) := by rw [← hgc, hE]
      have w1 : wr CS (o + (i + 1) * 10) (encL (l.drop i)) = A ++ (encL (l.take i) ++ (E1 ++ (encL (l.drop i) ++ E3))) := by
        have h := wr_at (A := A ++ encL (l.take i) ++ E1) (B := E2) (C := E3) (p := o + (i + 1) * 10) (by simp only [List.length_append, hA, hE1, e1, Nat.add_mul]; omega) (cs := encL (l.drop i)) (hE2.trans e3.symm)
        rw [hCS2]; simpa using h
      have w2 : wr (A ++ (encL (l.take i) ++ (E1 ++ (encL (l.drop i) ++ E3)))) (o + i * 10) (Flat.enc r) = A ++ ((encL (l.take i) ++ (Flat.enc r ++ encL (l.drop i))) ++ E3) := by
        have h := wr_at (A := A ++ encL (l.take i)) (B := E1) (C := encL (l.drop i) ++ E3) (p := o + i * 10) (by simp only [List.length_append, hA, hE1]) (cs := Flat.enc r) (hrl.trans e1.symm)
        simpa using h
      have hsrc2 : slCells W0 (H.set b ⟨CS, 10⟩) 10 (l.length - i) (.slc b (o + i * 10) (l.length + 1 - i) (c - i)) = some (encL (l.drop i)) := by
        have h1 : o + i * 10 + (l.length - i) * 10 ≤ CS.length := by rw [hCl, Nat.sub_mul]; have : i * 10 ≤ l.length * 10 := Nat.mul_le_mul_right _ hi; omega
        simp only [slCells, blk_set_self, Option.bind_some, true_and]
        rw [if_pos (by omega), if_pos h1, ← hgc, ← List.append_assoc, dt_mid (by simp [hA, hE1]) hE2]
      have hm3 : min (l.length + 1 - i) (l.length + 1 - (i + 1)) = l.length - i := by omega
      have hm4 : min 1 (l.length + 1 - i) = 1 := by omega
      have hlC := congrArg List.length w1
      repeat' (first | simp -implicitDefEqProofs only [go_sem] | (rw [hwi]) | (simp only [Int.toNat_natCast, hln, Nat.sub_zero]) | ((with_reducible refine adraw_seq ?_ ?_ ?_); (· kernel_rfl); (· decide +kernel)) | (with_reducible refine And.intro (by omega) ?_) | fail)
      refine copy_rule (cs := CS) (new := encL (l.drop i)) (blk_set_self _ _ _) (by rw [hm3]; exact hsrc2) (all_encL hok2) ?_ ?_
      · rw [hCl, Nat.sub_mul, Nat.add_mul]; omega
      rw [w1]
      repeat' (first | simp -implicitDefEqProofs only [go_sem] | (with_reducible refine And.intro (by omega) ?_) | fail)
      refine copy_rule (cs := A ++ (encL (l.take i) ++ (E1 ++ (encL (l.drop i) ++ E3)))) (new := Flat.enc r) (blk_set_self _ _ _) (by rw [hm4]; exact hnew _ (by simp only [go_sem, if_neg hbne, hbv])) hleaf ?_ ?_
      · have : i * 10 ≤ l.length * 10 := Nat.mul_le_mul_right _ hi
        rw [← w1, wr_length _ _ _ (by rw [hCl, hE2, Nat.sub_mul, Nat.add_mul]; omega), hCl, Nat.sub_mul, Nat.add_mul]
        omega
      rw [w2]
      repeat' (first | simp -implicitDefEqProofs only [go_sem])
      refine retK_one ⟨_, [b], Wk.slc _ _ _ _, OwnS.ofFlat (cs := A ++ ((encL (l.take i) ++ (Flat.enc r ++ encL (l.drop i))) ++ E3)) (by simp only [go_sem]; rfl) ?_ ?_ (by simp only [big]; omega) (hoks hok) (by omega), Nat.le_refl _, ?_, fun x hx => .inl hx, by simp⟩
      · rw [← hER]; exact dt_mid hA (encL_len (hoks hok))
      · rw [← hER]
        have h2 := encL_len (hoks hok)
        revert h2
        generalize encL (_ ++ r :: _) = X
        intro h2
        rw [show (A ++ (X ++ E3)).length = o + (X.length + E3.length) by rw [List.length_append, List.length_append, hA], h2]; omega
      · intro x B hx hB2
        have hxb : x ≠ b := by simpa using hx
        simp only [go_sem, if_neg hxb, hB2]
  · have hie : i = l.length := by omega
    have htl : l.take i = l := by rw [hie]; exact List.take_of_length_le (Nat.le_refl _)
    have hdl : l.drop i = [] := by rw [hie]; exact List.drop_of_length_le (Nat.le_refl _)
    rw [htl, hdl] at hER
    rw [htl] at hE1
    repeat' (first | simp -implicitDefEqProofs only [go_sem] | (refine app_slc (blk_set_self _ _ _) (hnew _ (by rw [blk_set_ne _ hbne]; exact hbv)) rfl hleaf (by omega) (by omega) (by omega) (fun hcn => ?_) (fun hcn => ?_)) | refine acond_decF (by omega) ?_ | refine acond_decT (by omega) ?_ | (with_reducible refine And.intro (by omega) ?_) | fail)
    · obtain ⟨E1, E3, hE, e1⟩ := cut2 (L := D) (m := 10) (by omega)
      have w1 : wr CS (o + l.length * 10) (Flat.enc r) = A ++ ((encL l ++ (Flat.enc r ++ encL ([] : List RowD))) ++ E3) := by
        have h := wr_at (A := A ++ encL l) (B := E1) (C := E3) (p := o + l.length * 10) (by simp only [List.length_append, hA, hE1, hie]) (cs := Flat.enc r) (hrl.trans e1.symm)
        rw [← hgc, htl, hdl, hE]; simpa [encL] using h
      rw [w1, htl, hdl]
      rw [htl, hdl] at hoks hlen
      refine retK_one ⟨_, [b], Wk.slc _ _ _ _, OwnS.ofFlat (cs := A ++ ((encL l ++ (Flat.enc r ++ encL ([] : List RowD))) ++ E3)) (by simp only [go_sem]; rfl) ?_ ?_ (by simp only [big]; omega) (hoks hok) (by omega), Nat.le_refl _, ?_, fun x hx => .inl hx, by simp⟩
      · rw [← hER]; exact dt_mid hA (encL_len (hoks hok))
      · rw [← hER]
        have h2 := encL_len (hoks hok)
        revert h2
        generalize encL (_ ++ r :: _) = X
        intro h2
        rw [show (A ++ (X ++ E3)).length = o + (X.length + E3.length) by rw [List.length_append, List.length_append, hA], h2]; omega
      · intro x B hx hB2
        have hxb : x ≠ b := by simpa using hx
        simp only [go_sem, if_neg hxb, hB2]
    · have htk : (CS.drop o).take (l.length * 10) = encL l := by rw [← hgc, ← hA, List.drop_left, htl, ← (show (encL l).length = l.length * 10 by rw [hE1, hie]), List.take_left]
      have hcs3 : encL l ++ Flat.enc r = encL (l ++ r :: []) := by rw [hER]; simp [encL]
      rw [htk, htl, hdl, hcs3]
      rw [htl, hdl] at hoks hlen
      refine retK_one ⟨_, [H.nxt], Wk.refl _, OwnS.ofFlat (cs := encL (l ++ r :: [])) (by simp only [go_sem]; rfl) ?_ ?_ (by simp only [big]; omega) (hoks hok) (by omega), Nat.le_succ _, ?_, ?_, by simp⟩
      · rw [List.drop_zero]; exact List.take_of_length_le (by rw [encL_len (hoks hok)]; exact Nat.le_refl _)
      · rw [encL_len (hoks hok)]; omega
      · intro x B hx hB2
        have hxb : x ≠ b := by simpa using hx
        have hxn : x ≠ H.nxt := fun h => by have h2 := hw.lt ((blk_set_ne H hxb ⟨CS, 10⟩).trans hB2); rw [h] at h2; exact absurd h2 (Nat.lt_irrefl _)
        simp only [go_sem, if_neg hxb, if_neg hxn, hB2]
      · intro x hx; exact .inr (by simp at hx; omega)
end Go.Proofs.YtipfnhfcoolhaaaGreat.Aw
end
section
namespace Go.Proofs.YtipfnhfcoolhaaaGreat.Aw
open Go Go.RowKit
set_option maxRecDepth 100000
set_option maxHeartbeats 2000000
def kcmp (a b : ByteArray) : Int := if klt a b then -1 else if klt b a then 1 else 0
theorem kcmp_lt {a b : ByteArray} : kcmp a b < 0 ↔ klt a b := by
  unfold kcmp; split
  · simp_all
  · split <;> simp_all
theorem kcmp_eq {a b : ByteArray} : kcmp a b = 0 ↔ a = b := by
  unfold kcmp; split
  · constructor
    · intro h; cases h
    · rintro rfl; exact absurd (by assumption) (klt_irrefl _)
  · split
    · constructor
      · intro h; cases h
      · rintro rfl; exact absurd (by assumption) (klt_irrefl _)
    · constructor
      · intro _
        rcases klt_tri a b with h | h | h
        · exact absurd h (by assumption)
        · exact h
        · exact absurd h (by assumption)
      · intro _; rfl
theorem kcmp_of {a b : ByteArray} (n : Int) (h : (n = -1 ∧ klt a b) ∨ (n = 1 ∧ klt b a) ∨ (n = 0 ∧ a = b)) : n = kcmp a b := by
  rcases h with ⟨rfl, h⟩ | ⟨rfl, h⟩ | ⟨rfl, rfl⟩
  · simp [kcmp, h]
  · simp [kcmp, h, klt_asymm h]
  · exact (kcmp_eq.2 rfl).symm
theorem klt_gtr {a b : ByteArray} (h1 : Op.bytesLess a.toList b.toList = false) (h2 : ¬ a = b) : klt b a := by
  rcases klt_tri a b with h | rfl | h
  · unfold klt at h; rw [h1] at h; cases h
  · exact absurd rfl h2
  · exact h
theorem shr1 {P : Program} {t : TypeId} (a : Int) {H : AH} {K : Kt} : abinop (K := K) P .shr t (.v (.int .u64 a)) (.v (.int .u64 1)) H = K.k (.v (.int .u64 (a / 2))) H := by simp [abinop, abin, IntKind.bits, Int.fdiv_eq_ediv]
theorem u64_i64 {x : Int} (h1 : 0 ≤ x) (h2 : x < 18446744073709551616) : IntKind.u64.wrap (IntKind.i64.wrap x) = x := by
  unfold IntKind.wrap
  simp only [IntKind.bits, IntKind.signed]
  simp
  omega
theorem isNaNS_ok (W0 : World) (a : ByteArray) (H : AH) : ACalls Tryz.prog W0 261 [.v (.string a)] H (fun v H' => v = .v (.bool false) ∧ H' = H) := by
  refine acallw Tryz.func261 rfl (by kernel_rfl) (by kernel_rfl) fun hc hw => ?_
  repeat' (first | simp -implicitDefEqProofs only [go_sem] | refine retK_eq ?_)
theorem CompareS_ok (W0 : World) (a b : ByteArray) (H : AH) : ACalls Tryz.prog W0 223 [.v (.string a), .v (.string b)] H (fun v H' => v = .v (.int .i64 (kcmp a b)) ∧ H' = H) := by
  refine acallw Tryz.func223 rfl (by kernel_rfl) (by kernel_rfl) fun hc hw => ?_
  repeat' (first | simp -implicitDefEqProofs only [go_sem] | refine ACallK.eq (isNaNS_ok _ _ _) ?_ | refine acond_split (fun _ => ?_) (fun _ => ?_) | refine retK_eq ?_)
  · rw [← kcmp_of (-1) (.inl ⟨rfl, by assumption⟩)]
  · rw [← kcmp_of 1 (.inr (.inl ⟨rfl, klt_gtr (by assumption) (by simp_all)⟩))]
  · rw [← kcmp_of 0 (.inr (.inr ⟨rfl, by simp_all⟩))]
theorem put1_ok (W0 : World) (cs : List AV) (x : RowD) (key : ByteArray) (H : AH) (hx : Ob.rep W0 H cs x) : ACalls Tryz.prog W0 222 [.agg cs, .v (.string key)] H (fun v H' => v = .v (.int .i64 (kcmp x.key key)) ∧ H' = H) := by
  refine acallw Tryz.func222 rfl (by kernel_rfl) (by kernel_rfl) fun hc hw => ?_
  obtain ⟨rfl, hx⟩ := hx
  repeat' (first | simp -implicitDefEqProofs only [go_sem] | refine ACallK.eq (CompareS_ok _ _ _ _) ?_ | refine retK_back (by assumption) ?_ | fail)
theorem At.lo {α : Type} {kf : α → ByteArray} {l : List α} {key : ByteArray} {h i j : Nat} (hs : SortedK kf l) (h1 : h < l.length) (hk : klt (kf l[h]) key) : ∀ k (hk : k < l.length), k < h + 1 → klt (kf l[k]) key := fun k h2 h3 => by
  rcases Nat.lt_succ_iff_lt_or_eq.1 h3 with h4 | rfl
  · exact klt_trans (List.pairwise_iff_getElem.1 hs k h h2 h1 h4) hk
  · exact hk
theorem At.hi {α : Type} {kf : α → ByteArray} {l : List α} {key : ByteArray} {h i j : Nat} (hs : SortedK kf l) (h1 : h < l.length) (hk : ¬ klt (kf l[h]) key) : ∀ k (hk : k < l.length), h ≤ k → ¬ klt (kf l[k]) key := fun k h2 h3 h5 => by
  rcases Nat.lt_or_ge h k with h4 | h4
  · exact hk (klt_trans (List.pairwise_iff_getElem.1 hs h k h1 h2 h4) h5)
  · obtain rfl : h = k := by omega
    exact hk h5
theorem BinarySearchFuncRow_ok (W0 : World) (a : AV) (l : List RowD) (key : ByteArray) (g : FuncId) (H : AH) (ha : SlR W0 H a l) (hs : SortedK RowD.key l) (hp : ∀ (cs : List AV) (x : RowD), Ob.rep W0 H cs x → ACalls Tryz.prog W0 g [.agg cs, .v (.string key)] H (fun v H' => v = .v (.int .i64 (kcmp x.key key)) ∧ H' = H)) :
    ACalls Tryz.prog W0 221 [a, .v (.string key), .fn g []] H (fun v H' => (∃ i : Nat, At RowD.key l key i ∧ v = .tup [.v (.int .i64 i), .v (.bool (hasK RowD.key l key))]) ∧ H' = H) := by
  refine acallw Tryz.func221 rfl (by kernel_rfl) (by kernel_rfl) fun hc hw => ?_
  have hb := ha.2.1; simp only [big] at hb
  repeat' (first | simp -implicitDefEqProofs only [go_sem] | refine abi_len_sl' (by assumption) ?_ | fail)
  refine acode_while (fun (p : Nat × Nat) => [(0, a), (1, .v (.string key)), (2, .fn g []), (8, .v (.int .i64 l.length)), (9, .v (.int .i64 p.1)), (10, .v (.int .i64 p.2))]) (fun (p : Nat × Nat) (H' : AH) => H' = H ∧ p.1 ≤ p.2 ∧ p.2 ≤ l.length ∧ (∀ (k : Nat) (h : k < l.length), k < p.1 → klt l[k].key key) ∧ (∀ (k : Nat) (h : k < l.length), p.2 ≤ k → ¬ klt l[k].key key)) (fun p => p.2 - p.1) (0, l.length) ⟨rfl, by omega, by simp only; omega, fun k _ h => by simp only at h; omega, fun k h h2 => by simp only at h2; omega⟩ ?_
  rintro ⟨i, j⟩ _ ⟨rfl, hij, hj, hP, hQ⟩
  simp only at hij hj hP hQ ⊢
  have hm1 : IntKind.u64.wrap (IntKind.i64.wrap ((i : Int) + (j : Int))) = ((i + j : Nat) : Int) := by rw [u64_i64 (by omega) (by omega)]; simp
  have hm2 : ((i + j : Nat) : Int) / 2 = (((i + j) / 2 : Nat) : Int) := by omega
  generalize hmid : (i + j) / 2 = m at hm2
  repeat' (first | simp -implicitDefEqProofs only [go_sem] | refine acond_dec (fun _ => ?_) (fun _ => ?_) | refine agrd_dec (fun _ => ?_) (fun _ => ?_) | refine aixs_sln (by assumption) ?_ | (refine aK_slw (by assumption) (by omega) ?_; intro _ _) | simp -implicitDefEqProofs (disch := omega) only [wrap_in, u8_small, Int.tmod_eq_emod_of_nonneg, Int.tdiv_eq_ediv_of_nonneg] | refine ACallK.eq (hp _ _ (by assumption)) ?_ | (rw [hm1, shr1, hm2]) | (refine retK_two ?_))
  · exact back (m + 1, j) ⟨by simp only; omega, by simp only; omega, At.lo (i := 0) (j := 0) hs (by omega) (kcmp_lt.1 (by assumption)), hQ⟩ (by simp only; omega)
  · exact back (i, m) ⟨by simp only; omega, by simp only; omega, hP, At.hi (i := 0) (j := 0) hs (by omega) (fun h => absurd (kcmp_lt.2 h) (by assumption))⟩ (by simp only; omega)
  · have hij2 : i = j := by omega
    subst hij2
    have hA : At RowD.key l key i := ⟨by omega, hP, hQ⟩
    refine ⟨i, hA, ?_⟩
    rw [hA.has hs]
    congr 5
    rw [Bool.eq_iff_iff, decide_eq_true_eq, decide_eq_true_eq, kcmp_eq]
    exact ⟨fun h => ⟨by omega, h⟩, fun ⟨_, h⟩ => h⟩
  · have hij2 : i = j := by omega
    subst hij2
    have hA : At RowD.key l key i := ⟨by omega, hP, hQ⟩
    refine ⟨i, hA, ?_⟩
    rw [hA.has hs, decide_eq_false (by rintro ⟨h, _⟩; omega)]
end Go.Proofs.YtipfnhfcoolhaaaGreat.Aw
end
section
namespace Go.Proofs.YtipfnhfcoolhaaaGreat.Aw
open Go Go.RowKit
set_option maxRecDepth 100000
set_option maxHeartbeats 1000000
theorem l1In_ok (W0 : World) (x lo hi : Int) (H : AH) : ACalls Tryz.prog W0 64 [.v (.int .i64 x), .v (.int .i64 lo), .v (.int .i64 hi)] H (fun v H' => v = .v (.bool (decide (lo ≤ x ∧ x ≤ hi))) ∧ H' = H) := by
  refine acallw Tryz.func64 rfl (by kernel_rfl) (by kernel_rfl) fun hc hw => ?_
  repeat' (first | simp -implicitDefEqProofs only [go_sem] | refine agrd_dec (fun _ => ?_) (fun _ => ?_) | refine retK_eq ?_)
  all_goals (refine bv ?_; simp; omega)
theorem within_ok (W0 : World) (x lo hi : Int) (H : AH) : ACalls Tryz.prog W0 86 [.v (.int .i64 x), .v (.int .i64 lo), .v (.int .i64 hi)] H (fun v H' => v = .v (.bool (decide (lo ≤ x ∧ x ≤ hi))) ∧ H' = H) := by
  refine acallw Tryz.func86 rfl (by kernel_rfl) (by kernel_rfl) fun hc hw => ?_
  repeat' (first | simp -implicitDefEqProofs only [go_sem] | refine agrd_dec (fun _ => ?_) (fun _ => ?_) | refine retK_eq ?_)
  all_goals (refine bv ?_; simp; omega)
theorem l4Byte_ok (W0 : World) (x : Int) (H : AH) : ACalls Tryz.prog W0 195 [.v (.int .i64 x)] H (fun v H' => v = .v (.bool (decide (keyByte x))) ∧ H' = H) := by
  refine acallw Tryz.func195 rfl (by kernel_rfl) (by kernel_rfl) fun hc hw => ?_
  repeat' (first | simp -implicitDefEqProofs only [go_sem] | refine agrd_decf (fun _ => ?_) (fun _ => ?_) | refine ACallK.eq (l1In_ok _ _ _ _ _) ?_ | refine retK_eq ?_)
  all_goals (refine bv ?_; simp only [decide_eq_true_eq, true_iff]; simp only [keyByte]; omega)
theorem KindWord_impl (W0 : World) (x : Int) (H : AH) : ACalls Tryz.prog W0 214 [.v (.int .i64 x)] H (fun v H' => v = .v (.string (kindW x)) ∧ H' = H) := by
  refine acallw Tryz.func214 rfl (by kernel_rfl) (by kernel_rfl) fun hc hw => ?_
  repeat' (first | simp -implicitDefEqProofs only [go_sem] | refine acond_dec (fun _ => ?_) (fun _ => ?_) | refine retK_eq ?_)
  all_goals simp_all [kindW]
theorem KindWord_spec (W0 : World) (x : Int) (H : AH) : ACalls Tryz.prog W0 128 [.v (.int .i64 x)] H (fun v H' => v = .v (.string (kindW x)) ∧ H' = H) := by
  refine acallw Tryz.func128 rfl (by kernel_rfl) (by kernel_rfl) fun hc hw => ?_
  repeat' (first | simp -implicitDefEqProofs only [go_sem] | refine acond_ndec (fun _ => ?_) (fun _ => ?_) | simp -implicitDefEqProofs (disch := omega) only [wrap_in, u8_small, Int.tmod_eq_emod_of_nonneg, Int.tdiv_eq_ediv_of_nonneg] | refine ACallK.eq (l1In_ok _ _ _ _ _) ?_ | refine And.intro (by omega) (And.intro (by omega) ?_) | refine retK_eq ?_)
  · rw [(kindW_empty x).2 (by assumption)]
  · obtain rfl | rfl | rfl : x = 1 ∨ x = 2 ∨ x = 3 := by omega
    all_goals
      repeat' (first | simp -implicitDefEqProofs only [go_sem] | refine retK_back (by assumption) ?_ | fail)
      all_goals rfl
theorem keyOk_false {s : ByteArray} (i : Nat) (h : i < s.size) (hk : ¬ keyByte (bt s i)) : keyOk s = false := by
  unfold keyOk
  rw [Bool.and_eq_false_iff]
  right
  rw [List.all_eq_false]
  exact ⟨i, by simpa using h, by simpa using hk⟩
theorem keyOk_eq {s : ByteArray} (h : ∀ i, i < s.size → keyByte (bt s i)) : keyOk s = decide (1 ≤ (s.size : Int) ∧ (s.size : Int) ≤ 4) := by
  unfold keyOk
  rw [show ((List.range s.size).all fun i => decide (keyByte (bt s i))) = true by rw [List.all_eq_true]; intro i hi; simpa using h i (by simpa using hi)]
  rw [Bool.and_true, Bool.eq_iff_iff]
  simp
  omega
theorem KeyOk_spec (W0 : World) (s : ByteArray) (H : AH) (hs : s.size ≤ big) : ACalls Tryz.prog W0 113 [.v (.string s)] H (fun v H' => v = .v (.bool (keyOk s)) ∧ H' = H) := by
  refine acallw Tryz.func113 rfl (by kernel_rfl) (by kernel_rfl) fun hc hw => ?_
  simp only [big] at hs
  repeat' (first | simp -implicitDefEqProofs only [go_sem])
  refine acode_while (fun i : Nat => [(0, .v (.string s)), (3, .v (.int .i64 i))]) (fun i H' => H' = H ∧ i ≤ s.size ∧ ∀ j, j < i → keyByte (bt s j)) (fun i => s.size - i) 0 ⟨rfl, by omega, by omega⟩ ?_
  rintro i _ ⟨rfl, hi, hP⟩
  repeat' (first | simp -implicitDefEqProofs only [go_sem] | refine acond_dec (fun _ => ?_) (fun _ => ?_) | refine acond_ndec (fun _ => ?_) (fun _ => ?_) | simp -implicitDefEqProofs (disch := omega) only [wrap_in, u8_small, Int.tmod_eq_emod_of_nonneg, Int.tdiv_eq_ediv_of_nonneg] | refine aix_strn (fun _ _ => ?_) | refine ACallK.eq (l4Byte_ok _ _ _) ?_ | refine ACallK.eq (l1In_ok _ _ _ _ _) ?_ | refine retK_eq ?_)
  · rw [keyOk_false i (by omega) (by assumption)]
  · refine back (i + 1) ⟨by omega, fun j hj => ?_⟩
    rcases Nat.lt_succ_iff_lt_or_eq.1 hj with h | rfl
    · exact hP j h
    · assumption
  · rw [keyOk_eq fun j hj => hP j (by omega)]
theorem KeyOk_impl (W0 : World) (s : ByteArray) (H : AH) (hs : s.size ≤ big) : ACalls Tryz.prog W0 101 [.v (.string s)] H (fun v H' => v = .v (.bool (keyOk s)) ∧ H' = H) := by
  refine acallw Tryz.func101 rfl (by kernel_rfl) (by kernel_rfl) fun hc hw => ?_
  simp only [big] at hs
  repeat' (first | simp -implicitDefEqProofs only [go_sem])
  refine acode_while (fun i : Nat => [(0, .v (.string s)), (6, .v (.int .i64 s.size)), (7, .v (.int .i64 i))]) (fun i H' => H' = H ∧ i ≤ s.size ∧ ∀ j, j < i → keyByte (bt s j)) (fun i => s.size - i) 0 ⟨rfl, by omega, by omega⟩ ?_
  rintro i _ ⟨rfl, hi, hP⟩
  repeat' (first | simp -implicitDefEqProofs only [go_sem] | refine acond_dec (fun _ => ?_) (fun _ => ?_) | refine acond_ndec (fun _ => ?_) (fun _ => ?_) | refine agrd_dec (fun _ => ?_) (fun _ => ?_) | refine agrd_decf (fun _ => ?_) (fun _ => ?_) | simp -implicitDefEqProofs (disch := omega) only [wrap_in, u8_small, Int.tmod_eq_emod_of_nonneg, Int.tdiv_eq_ediv_of_nonneg] | refine aix_strn (fun _ _ => ?_) | refine ACallK.eq (within_ok _ _ _ _ _) ?_ | refine retK_eq ?_)
  all_goals first
    | (refine back (i + 1) ⟨by omega, fun j hj => ?_⟩
       rcases Nat.lt_succ_iff_lt_or_eq.1 hj with h | rfl
       · exact hP j h
       · unfold keyByte; omega)
    | rw [keyOk_false i (by omega) (by unfold keyByte; omega)]
    | rw [keyOk_eq fun j hj => hP j (by omega)]
theorem eqAt_Op (x y : OpD) : EqAt Tryz.prog 89 [.int .i64 x.kind, .string x.key, .int .i64 x.what, .int .i64 x.val] [.int .i64 y.kind, .string y.key, .int .i64 y.what, .int .i64 y.val] (decide (x = y)) := by
  refine eqAt_of (r := decide (x = y)) (by kernel_rfl) (Eq.trans (by kernel_rfl : _ = some ((x.kind == y.kind) && ((x.key.toList == y.key.toList) && ((x.what == y.what) && ((x.val == y.val) && true))))) ?_)
  simp [bytes_eq_iff, OpD.ext_iff', ← decide_eq_decide]
  rfl
theorem OpOk_spec (W0 : World) (cs : List AV) (o : OpD) (H : AH) (ho : Ob.rep W0 H cs o) : ACalls Tryz.prog W0 227 [.agg cs] H (fun v H' => v = .v (.bool (opOk o)) ∧ H' = H) := by
  refine acallw Tryz.func227 rfl (by kernel_rfl) (by kernel_rfl) fun hc hw => ?_
  obtain ⟨rfl, h1, h2, h3, h4⟩ := ho
  repeat' (first | simp -implicitDefEqProofs only [go_sem] | refine acond_dec (fun _ => ?_) (fun _ => ?_) | refine agrd_dec (fun _ => ?_) (fun _ => ?_) | refine agrd_ndec (fun _ => ?_) (fun _ => ?_) | refine ACallK.eq (KeyOk_spec _ _ _ (by assumption)) ?_ | refine ACallK.eq (KindWord_spec _ _ _) ?_ | refine ACallK.eq (l1In_ok _ _ _ _ _) ?_ | (refine agg_eq (eqAt_Op ⟨_, _, _, _⟩ ⟨_, _, _, _⟩) ?_) | refine agrd_bt (fun _ => ?_) (fun _ => ?_) | refine retK_back (by assumption) ?_ | fail)
  all_goals (refine bv ?_; first | (simp_all [opOk, kindW_empty, OpD.ext_iff']; done) | (simp_all [opOk, kindW_empty, OpD.ext_iff']; omega))
theorem OpOk_impl (W0 : World) (cs : List AV) (o : OpD) (H : AH) (ho : Ob.rep W0 H cs o) : ACalls Tryz.prog W0 133 [.agg cs] H (fun v H' => v = .v (.bool (opOk o)) ∧ H' = H) := by
  refine acallw Tryz.func133 rfl (by kernel_rfl) (by kernel_rfl) fun hc hw => ?_
  obtain ⟨rfl, h1, h2, h3, h4⟩ := ho
  repeat' (first | simp -implicitDefEqProofs only [go_sem] | refine acond_dec (fun _ => ?_) (fun _ => ?_) | refine agrd_dec (fun _ => ?_) (fun _ => ?_) | refine agrd_ndec (fun _ => ?_) (fun _ => ?_) | refine ACallK.eq (KeyOk_impl _ _ _ (by assumption)) ?_ | refine ACallK.eq (KindWord_impl _ _ _) ?_ | refine ACallK.eq (within_ok _ _ _ _ _) ?_ | (refine agg_eq (eqAt_Op ⟨_, _, _, _⟩ ⟨_, _, _, _⟩) ?_) | refine agrd_bt (fun _ => ?_) (fun _ => ?_) | refine retK_back (by assumption) ?_ | fail)
  all_goals (refine bv ?_; first | (simp_all [opOk, kindW_empty, OpD.ext_iff']; done) | (simp_all [opOk, kindW_empty, OpD.ext_iff']; omega))
end Go.Proofs.YtipfnhfcoolhaaaGreat.Aw
end
section
namespace Go.Proofs.YtipfnhfcoolhaaaGreat.Aw
open Go Go.RowKit
set_option maxRecDepth 100000
set_option maxHeartbeats 1000000
theorem keyOk_size {s : ByteArray} (h : keyOk s = true) : 1 ≤ s.size ∧ s.size ≤ 4 := of_decide_eq_true ((Bool.and_eq_true _ _).mp h).1
theorem packN_lt {s : ByteArray} (h : keyOk s = true) {i : Nat} (hi : i ≤ s.size) : 0 ≤ packN s i ∧ packN s i < 4294967296 := by
  have h1 := keyOk_size h
  have h2 := packN_bd s i
  have : i = 0 ∨ i = 1 ∨ i = 2 ∨ i = 3 ∨ i = 4 := by omega
  rcases this with e | e | e | e | e <;> rw [e] at h2 ⊢ <;> simp at h2 <;> omega
theorem PackKey_spec (W0 : World) (s : ByteArray) (H : AH) (hs : s.size ≤ big) : ACalls Tryz.prog W0 264 [.v (.string s)] H (fun v H' => v = .v (.int .i64 (packKey s)) ∧ H' = H) := by
  refine acallw Tryz.func264 rfl (by kernel_rfl) (by kernel_rfl) fun hc hw => ?_
  simp only [big] at hs
  repeat' (first | simp -implicitDefEqProofs only [go_sem] | refine ACallK.eq (KeyOk_spec _ _ _ (by simp only [big]; omega)) ?_ | refine acond_split (fun _ => ?_) (fun _ => ?_) | refine retK_eq ?_)
  · rw [packKey, if_neg (by simp_all)]
  · have hk : keyOk s = true := by simp_all
    have hz := keyOk_size hk
    refine acode_while (fun i : Nat => [(0, .v (.string s)), (3, .v (.int .i64 (packN s i))), (4, .v (.int .i64 i))]) (fun i H' => H' = H ∧ i ≤ s.size) (fun i => s.size - i) 0 ⟨rfl, by omega⟩ ?_ (by simp only [frOk, go_sem, packN]; simp)
    rintro i _ ⟨rfl, hi⟩
    have hp := packN_lt hk hi
    repeat' (first | simp -implicitDefEqProofs only [go_sem] | refine acond_dec (fun _ => ?_) (fun _ => ?_) | simp -implicitDefEqProofs (disch := omega) only [wrap_in, u8_small, Int.tmod_eq_emod_of_nonneg, Int.tdiv_eq_ediv_of_nonneg] | refine aix_strn (fun _ _ => ?_) | refine retK_eq ?_)
    · exact back (i + 1) (by omega) (by omega) (by simp only [frOk, go_sem, packN, Int.natCast_add]; simp)
    · rw [packKey, if_pos hk, show i = s.size by omega]
theorem ReadFixed_ok (W0 : World) (s : ByteArray) (H : AH) (hk : keyOk s = true) : ACalls Tryz.prog W0 267 [.v (.string s), .v (.int .i64 s.size)] H (fun v H' => v = .tup [.v (.int .i64 (packN s s.size)), .v (.bool true)] ∧ H' = H) := by
  refine acallw Tryz.func267 rfl (by kernel_rfl) (by kernel_rfl) fun hc hw => ?_
  have hz := keyOk_size hk
  repeat' (first | simp -implicitDefEqProofs only [go_sem] | refine acond_dec (fun _ => ?_) (fun _ => ?_) | refine agrd_ndecf (fun _ => ?_) (fun _ => ?_) | refine ACallK.eq (within_ok _ _ _ _ _) ?_ | refine retK_eq ?_)
  · exfalso; omega
  · refine acode_while (fun i : Nat => [(0, .v (.string s)), (6, .v (.int .i64 (packN s i))), (17, .v (.int .i64 s.size)), (18, .v (.int .i64 i))]) (fun i H' => H' = H ∧ i ≤ s.size) (fun i => s.size - i) 0 ⟨rfl, by omega⟩ ?_ (by simp only [frOk, go_sem, packN]; simp)
    rintro i _ ⟨rfl, hi⟩
    have hp := packN_lt hk hi
    repeat' (first | simp -implicitDefEqProofs only [go_sem] | refine acond_dec (fun _ => ?_) (fun _ => ?_) | simp -implicitDefEqProofs (disch := omega) only [wrap_in, u8_small, Int.tmod_eq_emod_of_nonneg, Int.tdiv_eq_ediv_of_nonneg] | refine aix_strn (fun _ _ => ?_) | (rw [bits_join .i64 62 (by decide) (fun n h0 h1 => Go.IntWalk.i64_in n (by omega)) 8 _ _ (by omega) (by omega) (by omega) (by omega) (by omega) (by omega)]) | refine retK_eq ?_)
    · exact back (i + 1) (by omega) (by omega) (by simp only [frOk, go_sem, packN, Int.natCast_add]; simp)
    · rw [show i = s.size by omega]
  · exfalso; omega
theorem PackKey_impl (W0 : World) (s : ByteArray) (H : AH) (hs : s.size ≤ big) : ACalls Tryz.prog W0 245 [.v (.string s)] H (fun v H' => v = .v (.int .i64 (packKey s)) ∧ H' = H) := by
  refine acallw Tryz.func245 rfl (by kernel_rfl) (by kernel_rfl) fun hc hw => ?_
  cases hk : keyOk s with
  | false => 
    repeat' (first | simp -implicitDefEqProofs only [go_sem] | refine ACallK.eq (KeyOk_impl _ _ _ hs) ?_ | rw [hk] | refine retK_eq ?_)
    all_goals (rw [packKey, if_neg (by simp_all)])
  | true =>
    repeat' (first | simp -implicitDefEqProofs only [go_sem] | refine ACallK.eq (KeyOk_impl _ _ _ hs) ?_ | rw [hk] | refine ACallK.eq (ReadFixed_ok _ _ _ hk) ?_ | refine retK_eq ?_)
    all_goals (rw [packKey, if_pos hk])
theorem UnpackKey_spec (W0 : World) (n : Int) (H : AH) : ACalls Tryz.prog W0 127 [.v (.int .i64 n)] H (fun v H' => v = .tup [.v (.string (unpackKey n).1), .v (.bool (unpackKey n).2)] ∧ H' = H) := by
  refine acallw Tryz.func127 rfl (by kernel_rfl) (by kernel_rfl) fun hc hw => ?_
  repeat' (first | simp -implicitDefEqProofs only [go_sem] | refine acond_ndec (fun _ => ?_) (fun _ => ?_) | refine ACallK.eq (l1In_ok _ _ _ _ _) ?_ | refine retK_eq ?_)
  · rw [unpackKey, if_neg (by simp_all; omega)]
  · refine acode_while (fun x : Nat × Int × List Int × Nat => [(0, .v (.int .i64 x.2.1)), (4, .sl x.2.2.2 0 x.2.2.1.length)]) (fun x H' => Sub H H' ∧ H.nxt ≤ x.2.2.2 ∧ x.2.2.2 < H'.nxt ∧ H'.blk x.2.2.2 = some ⟨x.2.2.1.map fun y => AV.v (.int .u8 y), 1⟩ ∧ 0 ≤ x.2.1 ∧ x.2.1 ≤ 4294967295 ∧ x.2.1 < 256 ^ x.1 ∧ x.2.2.1.length + x.1 = 4 ∧ bytesF x.1 x.2.1 x.2.2.1 = bytesF 4 n [] ∧ ∀ y ∈ x.2.2.1, 0 ≤ y ∧ y < 256) (fun x => x.1) (4, n, [], H.nxt) ⟨by repeat (first | exact Sub.refl _ | assumption | refine Sub.new (by assumption) ?_ _ _ | refine Sub.kill_new (by assumption) ?_ _ _ | refine Sub.trans ?_ (by assumption)), Nat.le_refl _, Nat.lt_succ_self _, by simp only [go_sem], by show (0 : Int) ≤ n; omega, by show n ≤ 4294967295; omega, by show n < 256 ^ 4; omega, rfl, rfl, by simp⟩ ?_
    rintro ⟨f, m, l, b⟩ H' ⟨hs, hb1, hb2, hblk, h0, h00, h1, hl, hF, hy⟩
    simp only at hb1 hb2 hblk h0 h00 h1 hl hF hy
    have hn := hs.1
    repeat' (first | simp -implicitDefEqProofs only [go_sem] | refine acond_dec (fun _ => ?_) (fun _ => ?_) | simp -implicitDefEqProofs (disch := omega) only [wrap_in, u8_small, Int.tmod_eq_emod_of_nonneg, Int.tdiv_eq_ediv_of_nonneg] | (rw [slInts hblk]) | refine ACallK.eq (KeyOk_spec _ _ _ (by rw [strOfNums_size]; simp only [big]; omega)) ?_ | refine app_rule (blk_new_self _ _ _) (slCells_whole (cs := l.map fun y => AV.v (.int .u8 y)) (by rw [blk_new, if_neg (by omega), hblk]) (by simp)) rfl (by simp [leafA, leafV]) (by simp) (by omega) ?_ | refine acond_split (fun _ => ?_) (fun _ => ?_) | refine retK_back (by assumption) ?_ | fail)
    · cases f with
      | zero => simp at h1; omega
      | succ f =>
        rw [Int.pow_succ] at h1
        refine back (f, m / 256, (m % 256) :: l, H'.nxt + 1) ⟨by repeat (first | exact Sub.refl _ | assumption | refine Sub.new (by assumption) ?_ _ _ | refine Sub.kill_new (by assumption) ?_ _ _ | refine Sub.trans ?_ (by assumption)), by simp only; omega, by simp only; omega, by simp only [if_true]; rfl, by simp only; omega, by simp only; omega, by simp only; omega, by simp only [List.length_cons]; omega, ?_, ?_⟩ (by simp only; omega) (by simp only [frOk, go_sem]; simp [Nat.add_comm])
        · rw [← hF]; simp only [bytesF]; rw [if_pos (by omega)]
        · intro y hy'
          rcases List.mem_cons.1 hy' with rfl | h
          · omega
          · exact hy y h
    all_goals
      have hl2 : l = bytesF 4 n [] := by
        rw [← hF]
        cases f with
        | zero => rfl
        | succ f => simp only [bytesF]; rw [if_neg (by omega)]
      subst hl2
      unfold unpackKey
      simp_all
end Go.Proofs.YtipfnhfcoolhaaaGreat.Aw
end
section
namespace Go.Proofs.YtipfnhfcoolhaaaGreat.Aw
open Go Go.RowKit
set_option maxRecDepth 100000
set_option maxHeartbeats 1000000
theorem rep_take (k : Nat) (l : List AV) (v : AV) : (List.replicate (k + 1) v ++ l).take k = List.replicate k v := by
  rw [List.take_append_of_le_length (by simp), List.take_replicate]; congr 1; omega
theorem rep_drop (k : Nat) (l : List AV) (v : AV) : (List.replicate (k + 1) v ++ l).drop (k + 1) = l := by
  rw [List.drop_append_of_le_length (by simp)]; simp
theorem Fixed_ok (W0 : World) (n : Int) (w : Nat) (H : AH) (hw1 : w = 1 ∨ w = 2 ∨ w = 3 ∨ w = 4) : ACalls Tryz.prog W0 257 [.v (.int .i64 n), .v (.int .i64 w)] H (fun v H' => v = .v (.string (fixedS n w)) ∧ H' = H) := by
  refine acallw Tryz.func257 rfl (by kernel_rfl) (by kernel_rfl) fun hc hw => ?_
  have hshr : ∀ {K : Kt} {H : AH} (t : TypeId), abinop (K := K) Tryz.prog .shr t (.v (.int .i64 n)) (.v (.int .i64 (8 * (w : Int)))) H = K.k (.v (.int .i64 (n / 256 ^ w))) H := by
    intro K H t
    rcases hw1 with rfl | rfl | rfl | rfl <;> simp [abinop, abin, IntKind.bits, Int.fdiv_eq_ediv]
  have hpow : (256 : Int) ^ w ≤ 4294967296 ∧ 0 < (256 : Int) ^ w := by rcases hw1 with rfl | rfl | rfl | rfl <;> simp
  repeat' (first | simp -implicitDefEqProofs only [go_sem] | refine acond_ndec (fun _ => ?_) (fun _ => ?_) | refine agrd_decf (fun _ => ?_) (fun _ => ?_) | refine agrd_ndecf (fun _ => ?_) (fun _ => ?_) | simp -implicitDefEqProofs (disch := omega) only [wrap_in, u8_small, Int.tmod_eq_emod_of_nonneg, Int.tdiv_eq_ediv_of_nonneg] | refine ACallK.eq (within_ok _ _ _ _ _) ?_ | rw [hshr] | refine And.intro (by omega) (And.intro (by omega) ?_) | refine retK_eq ?_)
  · rw [fixedS, if_neg]
    rintro ⟨h0, h⟩
    rw [Int.ediv_eq_zero_of_lt h0 h] at *
    omega
  · refine ⟨by omega, ?_⟩
    have hlt : n < 256 ^ w := by
      have h1 : n / 256 ^ w = 0 := by assumption
      have h2 := Int.lt_ediv_add_one_mul_self n hpow.2
      rw [h1] at h2; omega
    refine acode_while (fun x : Nat × Int × List Int => [(0, .v (.int .i64 x.2.1)), (5, .sl H.nxt 0 w), (6, .v (.int .i64 ((x.1 : Int) - 1)))]) (fun x H' => H' = H.new (List.replicate x.1 (AV.v (.int .u8 0)) ++ x.2.2.map fun y => AV.v (.int .u8 y)) 1 ∧ 0 ≤ x.2.1 ∧ x.2.1 ≤ 4611686018427387904 ∧ x.2.2.length + x.1 = w ∧ fixL w n = fixL x.1 x.2.1 ++ x.2.2) (fun x => x.1) (w, n, []) ⟨by simp [zerosA_one], by show 0 ≤ n; omega, by show n ≤ 4611686018427387904; omega, by simp, by simp⟩ ?_
    rintro ⟨k, m, l⟩ H' ⟨hH, h0, h1, hl, hF⟩
    simp only at hH h0 h1 hl hF
    subst hH
    cases k with
    | zero =>
      have e : (((0 : Nat) : Int) - 1) = -1 := rfl
      repeat' (first | simp -implicitDefEqProofs only [go_sem] | refine acond_dec (fun _ => ?_) (fun _ => ?_) | simp -implicitDefEqProofs (disch := omega) only [wrap_in, u8_small, Int.tmod_eq_emod_of_nonneg, Int.tdiv_eq_ediv_of_nonneg] | simp only [e] | (rw [slInts' (l := l) (by simp only [go_sem]; rfl) (by omega)]) | refine And.intro (by omega) (And.intro (by omega) ?_) | refine retK_back (by assumption) ?_ | fail)
      · exfalso; omega
      · rw [fixedS, if_pos ⟨by omega, hlt⟩, hF]; simp [fixL]
    | succ k =>
      have e : (((k + 1 : Nat) : Int) - 1) = k := by omega
      repeat' (first | simp -implicitDefEqProofs only [go_sem] | refine acond_dec (fun _ => ?_) (fun _ => ?_) | simp -implicitDefEqProofs (disch := omega) only [wrap_in, u8_small, Int.tmod_eq_emod_of_nonneg, Int.tdiv_eq_ediv_of_nonneg] | simp only [e] | (rw [u8_wrap]) | simp -implicitDefEqProofs only [go_sem, slCells_own, aapp_own] | refine And.intro (by omega) (And.intro (by omega) ?_) | fail)
      · refine ⟨by simp, ?_⟩
        refine back (k, m / 256, (m % 256) :: l) ⟨?_, by show 0 ≤ m / 256; omega, by show m / 256 ≤ _; omega, by show l.length + 1 + k = w; omega, by rw [hF]; simp [fixL]⟩ (by show k < k + 1; omega) (by first | (simp only [frOk, go_sem]; done) | (simp only [frOk, go_sem]; simp; done))
        simp only [List.map_cons]
        have e1 := rep_take k (l.map fun y => AV.v (Value.int .u8 y)) (AV.v (.int .u8 0))
        have e2 := rep_drop k (l.map fun y => AV.v (Value.int .u8 y)) (AV.v (.int .u8 0))
        rw [e2]
        first | done | rw [e1]
      · exfalso; omega
  · rw [fixedS, if_neg (by omega)]
  · exfalso; omega
theorem fixedS_size (n : Int) (w : Nat) : (fixedS n w).size ≤ w := by
  unfold fixedS
  split
  · rw [strOfNums_size, fixL_len]; exact Nat.le_refl _
  · exact Nat.zero_le _
theorem UnpackKey_impl (W0 : World) (n : Int) (H : AH) : ACalls Tryz.prog W0 208 [.v (.int .i64 n)] H (fun v H' => v = .tup [.v (.string (unpackKey n).1), .v (.bool (unpackKey n).2)] ∧ H' = H) := by
  refine acallw Tryz.func208 rfl (by kernel_rfl) (by kernel_rfl) fun hc hw => ?_
  repeat' (first | simp -implicitDefEqProofs only [go_sem])
  refine acode_while (fun k : Nat => [(0, .v (.int .i64 n)), (4, .v (.int .i64 k))]) (fun k H' => H' = H ∧ 1 ≤ k ∧ k ≤ 5 ∧ ∀ w : Nat, 1 ≤ w → w < k → ¬ (0 < n ∧ n < 256 ^ w ∧ packKey (strOfNums (fixL w n)) = n)) (fun k => 5 - k) 1 ⟨rfl, by omega, by omega, by omega⟩ ?_
  rintro k _ ⟨rfl, hk1, hk2, hP⟩
  have hz := fixedS_size n k
  repeat' (first | simp -implicitDefEqProofs only [go_sem] | refine acond_dec (fun _ => ?_) (fun _ => ?_) | refine agrd_dec (fun _ => ?_) (fun _ => ?_) | refine agrd_ndec (fun _ => ?_) (fun _ => ?_) | simp -implicitDefEqProofs (disch := omega) only [wrap_in, u8_small, Int.tmod_eq_emod_of_nonneg, Int.tdiv_eq_ediv_of_nonneg] | refine ACallK.eq (Fixed_ok _ _ k _ (by omega)) ?_ | refine ACallK.eq (PackKey_impl _ _ _ (by simp only [big]; omega)) ?_ | refine retK_eq ?_)
  all_goals first
    | (have h1 : ¬ fixedS n k = ⟨#[]⟩ := by assumption
       have h2 : packKey (fixedS n k) = n := by assumption
       have h3 : 0 ≤ n ∧ n < 256 ^ k := by
         by_cases h : 0 ≤ n ∧ n < 256 ^ k
         · exact h
         · exact absurd (by rw [fixedS, if_neg h]) h1
       have h4 : fixedS n k = strOfNums (fixL k n) := by rw [fixedS, if_pos h3]
       rw [h4] at h2 ⊢
       rw [unpack_hit ⟨by omega, by omega⟩ (by assumption) h3.2 h2])
    | (refine back (k + 1) ⟨by omega, by omega, fun w h1 h2 => ?_⟩
       rcases Nat.lt_succ_iff_lt_or_eq.1 h2 with h | rfl
       · exact hP w h1 h
       · rintro ⟨h3, h4, h5⟩
         have h6 : fixedS n w = strOfNums (fixL w n) := by rw [fixedS, if_pos ⟨by omega, h4⟩]
         have h7 : ¬ strOfNums (fixL w n) = ⟨#[]⟩ := by
           intro h
           have := congrArg ByteArray.size h
           rw [strOfNums_size, fixL_len] at this
           have h8 : (⟨#[]⟩ : ByteArray).size = 0 := rfl
           omega
         simp_all)
    | rw [unpack_none fun w h1 h2 => hP w h1 (by omega)]
theorem Tagged_spec (W0 : World) (s : ByteArray) (k : Int) (H : AH) (hs : s.size ≤ big) : ACalls Tryz.prog W0 229 [.v (.string s), .v (.int .i64 k)] H (fun v H' => v = .v (.int .i64 (tagged s k)) ∧ H' = H) := by
  refine acallw Tryz.func229 rfl (by kernel_rfl) (by kernel_rfl) fun hc hw => ?_
  have hp := packKey_bd s
  have he := kindW_empty k
  repeat' (first | simp -implicitDefEqProofs only [go_sem] | refine acond_dec (fun _ => ?_) (fun _ => ?_) | simp -implicitDefEqProofs (disch := omega) only [wrap_in, u8_small, Int.tmod_eq_emod_of_nonneg, Int.tdiv_eq_ediv_of_nonneg] | refine ACallK.eq (KeyOk_spec _ _ _ hs) ?_ | refine ACallK.eq (KindWord_spec _ _ _) ?_ | refine ACallK.eq (PackKey_spec _ _ _ hs) ?_ | refine agrd_bf (fun _ => ?_) (fun _ => ?_) | refine retK_eq ?_)
  all_goals
    refine iv ?_
    unfold tagged
    by_cases hk : 1 ≤ k ∧ k ≤ 3
    · (try rw [Go.IntWalk.i64_in (packKey s * 4) (by omega)])
      (try rw [Go.IntWalk.i64_in (4 * packKey s) (by omega)])
      (try rw [Go.IntWalk.i64_in _ (by omega)])
      simp_all <;> omega
    · simp_all <;> omega
theorem Tagged_impl (W0 : World) (s : ByteArray) (k : Int) (H : AH) (hs : s.size ≤ big) : ACalls Tryz.prog W0 173 [.v (.string s), .v (.int .i64 k)] H (fun v H' => v = .v (.int .i64 (tagged s k)) ∧ H' = H) := by
  refine acallw Tryz.func173 rfl (by kernel_rfl) (by kernel_rfl) fun hc hw => ?_
  have hp := packKey_bd s
  have he := kindW_empty k
  repeat' (first | simp -implicitDefEqProofs only [go_sem] | refine acond_dec (fun _ => ?_) (fun _ => ?_) | simp -implicitDefEqProofs (disch := omega) only [wrap_in, u8_small, Int.tmod_eq_emod_of_nonneg, Int.tdiv_eq_ediv_of_nonneg] | refine ACallK.eq (KeyOk_impl _ _ _ hs) ?_ | refine ACallK.eq (KindWord_impl _ _ _) ?_ | refine ACallK.eq (PackKey_impl _ _ _ hs) ?_ | refine agrd_bf (fun _ => ?_) (fun _ => ?_) | refine retK_eq ?_)
  all_goals
    refine iv ?_
    unfold tagged
    by_cases hk : 1 ≤ k ∧ k ≤ 3
    · (try rw [Go.IntWalk.i64_in (packKey s * 4) (by omega)])
      (try rw [Go.IntWalk.i64_in (4 * packKey s) (by omega)])
      (try rw [Go.IntWalk.i64_in _ (by omega)])
      simp_all <;> omega
    · simp_all <;> omega
theorem untag_kind (n : Int) : 0 ≤ (untag n).2 ∧ (untag n).2 ≤ 3 := by unfold untag; split <;> simp <;> omega
theorem unpackKey_size (n : Int) : (unpackKey n).1.size ≤ 4 := by
  unfold unpackKey
  split
  · rename_i h; exact (keyOk_size h.2.2).2
  · exact Nat.zero_le _
theorem untag_size (n : Int) : (untag n).1.size ≤ 4 := by
  unfold untag
  split
  · exact unpackKey_size _
  · exact Nat.zero_le _
theorem unpackKey_ok {n : Int} (h : (unpackKey n).2 = true) : keyOk (unpackKey n).1 = true ∧ packKey (unpackKey n).1 = n ∧ 1 ≤ n ∧ n ≤ 4294967295 := by
  have e : (unpackKey n).2 = true := h
  unfold unpackKey at e ⊢
  split at e
  · rename_i hc
    rw [if_pos hc]
    refine ⟨hc.2.2, ?_, hc.1, hc.2.1⟩
    have go : ∀ w : Nat, 1 ≤ w → w ≤ 4 → n < 256 ^ w → 256 ^ (w - 1) ≤ n → packKey (strOfNums (bytesF 4 n [])) = n := by
      intro w hw1 hw2 hl hg
      have hb := bytesF_fix w 4 n [] hw2 (by omega) hl (.inr hg)
      rw [List.append_nil] at hb
      have hk := hc.2.2
      rw [hb] at hk ⊢
      exact packKey_fix (by omega) hl hk
    by_cases h2 : n < 256
    · exact go 1 (by omega) (by omega) (by simpa using h2) (by simp; omega)
    by_cases h3 : n < 65536
    · exact go 2 (by omega) (by omega) (by simp; omega) (by simp; omega)
    by_cases h4 : n < 16777216
    · exact go 3 (by omega) (by omega) (by simp; omega) (by simp; omega)
    · exact go 4 (by omega) (by omega) (by simp; omega) (by simp; omega)
  · cases e
theorem Untag_spec (W0 : World) (n : Int) (H : AH) (hn : inI64 n) : ACalls Tryz.prog W0 47 [.v (.int .i64 n)] H (fun v H' => v = .tup [.v (.string (untag n).1), .v (.int .i64 (untag n).2)] ∧ H' = H) := by
  refine acallw Tryz.func47 rfl (by kernel_rfl) (by kernel_rfl) fun hc hw => ?_
  simp only [inI64] at hn
  have he := kindW_empty (n % 4)
  repeat' (first | simp -implicitDefEqProofs only [go_sem] | refine acond_dec (fun _ => ?_) (fun _ => ?_) | refine acond_ndec (fun _ => ?_) (fun _ => ?_) | simp -implicitDefEqProofs (disch := omega) only [wrap_in, u8_small, Int.tmod_eq_emod_of_nonneg, Int.tdiv_eq_ediv_of_nonneg] | refine ACallK.eq (l1In_ok _ _ _ _ _) ?_ | refine ACallK.eq (UnpackKey_spec _ _ _) ?_ | refine ACallK.eq (KindWord_spec _ _ _) ?_ | refine agrd_bf (fun _ => ?_) (fun _ => ?_) | refine retK_eq ?_)
  all_goals
    refine tv ?_
    unfold untag
    by_cases hq : 1 ≤ n % 4
    · have hk : kindW (n % 4) ≠ ⟨#[]⟩ := fun h => he.1 h (by omega)
      cases hu : (unpackKey (n / 4)).2 <;> simp_all <;> (rw [if_neg (by omega)]; simp)
    · have hk : kindW (n % 4) = ⟨#[]⟩ := he.2 (by omega)
      cases hu : (unpackKey (n / 4)).2 <;> simp_all <;> (rw [if_neg (by omega)]; simp)
theorem Untag_impl (W0 : World) (n : Int) (H : AH) (hn : inI64 n) : ACalls Tryz.prog W0 129 [.v (.int .i64 n)] H (fun v H' => v = .tup [.v (.string (untag n).1), .v (.int .i64 (untag n).2)] ∧ H' = H) := by
  refine acallw Tryz.func129 rfl (by kernel_rfl) (by kernel_rfl) fun hc hw => ?_
  simp only [inI64] at hn
  by_cases hn0 : 0 ≤ n
  · repeat' (first | simp -implicitDefEqProofs only [go_sem] | refine acond_ndec (fun _ => ?_) (fun _ => ?_) | simp -implicitDefEqProofs (disch := omega) only [wrap_in, u8_small, Int.tmod_eq_emod_of_nonneg, Int.tdiv_eq_ediv_of_nonneg] | refine ACallK.eq (UnpackKey_impl _ _ _) ?_ | refine ACallK.eq (Tagged_impl _ _ _ _ (Nat.le_trans (unpackKey_size _) (by simp [big]))) ?_ | refine agrd_bf (fun _ => ?_) (fun _ => ?_) | refine retK_eq ?_)
    all_goals
      refine tv ?_
      cases hu : (unpackKey (n / 4)).2 with
      | false => unfold untag; simp_all
      | true =>
        obtain ⟨h1, h2, h3, h4⟩ := unpackKey_ok hu
        by_cases hq : 1 ≤ n % 4
        · have ht : tagged (unpackKey (n / 4)).1 (n % 4) = n := by
            rw [tagged, if_pos ⟨h1, hq, by omega⟩, h2]; omega
          unfold untag; rw [if_pos ⟨by omega, by omega, hu, hq⟩] <;> simp_all
        · have ht : tagged (unpackKey (n / 4)).1 (n % 4) = 0 := by rw [tagged, if_neg (by omega)]
          unfold untag; rw [if_neg (by omega)] <;> simp_all <;> (exfalso; omega)
  · have ht : n.tdiv 4 ≤ 0 ∧ -2305843009213693953 ≤ n.tdiv 4 := by
      obtain ⟨m, rfl⟩ : ∃ m, n = -m := ⟨-n, by omega⟩
      rw [Int.neg_tdiv, Int.tdiv_eq_ediv_of_nonneg (by omega)]; omega
    have hu : unpackKey (n.tdiv 4) = (⟨#[]⟩, false) := by rw [unpackKey, if_neg (by omega)]
    have hw4 : IntKind.i64.wrap (n.tdiv 4) = n.tdiv 4 := Go.IntWalk.i64_in _ (by omega)
    repeat' (first | simp -implicitDefEqProofs only [go_sem] | simp -implicitDefEqProofs (disch := omega) only [wrap_in, u8_small, Int.tmod_eq_emod_of_nonneg, Int.tdiv_eq_ediv_of_nonneg] | rw [hw4] | refine ACallK.eq (UnpackKey_impl _ _ _) ?_ | rw [hu] | refine retK_eq ?_)
    all_goals (rw [untag, if_neg (by omega)])
end Go.Proofs.YtipfnhfcoolhaaaGreat.Aw
end
section
namespace Go.Proofs.YtipfnhfcoolhaaaGreat.Aw
open Go Go.RowKit
set_option maxRecDepth 100000
set_option maxHeartbeats 1000000
theorem ModelKind_impl (W0 : World) (cs : List AV) (m : ModelD) (key : ByteArray) (H : AH) (hm : Ob.rep W0 H cs m) : ACalls Tryz.prog W0 134 [.agg cs, .v (.string key)] H (fun v H' => v = .v (.int .i64 (modelKind m key)) ∧ H' = H) := by
  refine acallw Tryz.func134 rfl (by kernel_rfl) (by kernel_rfl) fun hc hw => ?_
  obtain ⟨vk, vr, rfl, hk, hr⟩ := hm
  have hb := hk.2.1; simp only [big] at hb
  repeat' (first | simp -implicitDefEqProofs only [go_sem] | refine abi_len_sl' (by assumption) ?_ | fail)
  refine acode_while (fun i : Nat => [(1, .v (.string key)), (8, vk), (9, .v (.int .i64 m.keys.length)), (10, .v (.int .i64 i))]) (fun i H' => Sub H H' ∧ i ≤ m.keys.length ∧ NoneTo (fun k => decide (k.key = key)) m.keys i) (fun i => m.keys.length - i) 0 ⟨by repeat (first | exact Sub.refl _ | assumption | refine Sub.new (by assumption) ?_ _ _ | refine Sub.kill_new (by assumption) ?_ _ _ | refine Sub.trans ?_ (by assumption)), by omega, NoneTo.zero _ _⟩ ?_
  rintro i H' ⟨hs, hi, hP⟩
  repeat' (first | simp -implicitDefEqProofs only [go_sem] | refine acond_dec (fun _ => ?_) (fun _ => ?_) | refine aixs_sln (by assumption) ?_ | (refine aK_sl (by assumption) (by omega) ?_; first | rintro _ ⟨rfl, _⟩ | (intro _ hx; obtain ⟨_, rfl, _, _⟩ := EvD.out hx) | (intro _ hx; obtain ⟨_, _, rfl, _, _, _⟩ := JobD.out hx) | rintro _ ⟨_, rfl, _⟩) | simp -implicitDefEqProofs (disch := omega) only [wrap_in, u8_small, Int.tmod_eq_emod_of_nonneg, Int.tdiv_eq_ediv_of_nonneg] | refine retK_back (by assumption) ?_ | fail)
  · rw [modelKind, find_hit hP (by omega) (decide_eq_true (by assumption))]
  · exact back (i + 1) ⟨by repeat (first | exact Sub.refl _ | assumption | refine Sub.new (by assumption) ?_ _ _ | refine Sub.kill_new (by assumption) ?_ _ _ | refine Sub.trans ?_ (by assumption)), by omega, hP.succ (by omega) (decide_eq_false (by assumption))⟩
  · rw [modelKind, find_none hP (by omega)]
theorem IndexFuncRow_ok (W0 : World) (a : AV) (xs : List RowD) (g : FuncId) (caps : List AV) (p : RowD → Bool) (H : AH) (ha : SlR W0 H a xs) (hp : ∀ cs x, Ob.rep W0 H cs x → ACalls Tryz.prog W0 g (.agg cs :: caps) H (fun v H' => v = .v (.bool (p x)) ∧ H' = H)) :
    ACalls Tryz.prog W0 258 [a, .fn g caps] H (fun v H' => v = .v (.int .i64 (firstIdx p xs)) ∧ H' = H) := by
  refine acallw Tryz.func258 rfl (by kernel_rfl) (by kernel_rfl) fun hc hw => ?_
  have hb := ha.2.1; simp only [big] at hb
  repeat' (first | simp -implicitDefEqProofs only [go_sem] | refine abi_len_sl' (by assumption) ?_ | fail)
  refine acode_while (fun i : Nat => [(0, a), (1, .fn g caps), (7, .v (.int .i64 xs.length)), (8, .v (.int .i64 i))]) (fun i H' => H' = H ∧ i ≤ xs.length ∧ NoneTo p xs i) (fun i => xs.length - i) 0 ⟨rfl, by omega, NoneTo.zero _ _⟩ ?_
  rintro i _ ⟨rfl, hi, hP⟩
  repeat' (first | simp -implicitDefEqProofs only [go_sem] | refine acond_dec (fun _ => ?_) (fun _ => ?_) | refine aixs_sln (by assumption) ?_ | (refine aK_slw (by assumption) (by omega) ?_; intro _ _) | simp -implicitDefEqProofs (disch := omega) only [wrap_in, u8_small, Int.tmod_eq_emod_of_nonneg, Int.tdiv_eq_ediv_of_nonneg] | refine ACallK.eq (hp _ _ (by assumption)) ?_ | refine acond_split (fun _ => ?_) (fun _ => ?_) | refine retK_eq ?_)
  · rw [idx_hit hP (by omega) (by assumption)]
  · exact back (i + 1) ⟨by omega, hP.succ (by omega) (by assumption)⟩
  · rw [idx_none hP (by omega)]
end Go.Proofs.YtipfnhfcoolhaaaGreat.Aw
end
