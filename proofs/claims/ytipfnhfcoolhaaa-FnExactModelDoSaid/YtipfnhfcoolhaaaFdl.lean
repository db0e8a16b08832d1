/- The library's Delete of one row. -/
import Derived.Test.YtipfnhfcoolhaaaFp
namespace Go.Proofs.Ytipfnhfcoolhaaa.Aw
open Go Go.RowKit
set_option linter.unusedVariables false
set_option linter.unusedSimpArgs false
set_option maxRecDepth 100000
set_option maxHeartbeats 2000000
attribute [-go_sem] wr_eq
section
variable {P : Program} {W0 : World}
theorem asl3_slc {K : Kt} {H : AH} {t : TypeId} {g : Bool} {s by' : Nat} {z : List Value} {b o n c : Nat} {cs : List AV} {l h m : Nat} (hi : (elt P t).bind (tyi P) = some ⟨g, s, by', z⟩) (hB : H.blk b = some ⟨cs, s⟩) (h1 : l ≤ h) (h2 : h ≤ m) (h3 : m ≤ c)
    (k : K.k (.slc b (o + l * s) (h - l) (m - l)) H) : asl3 (K := K) P W0 t (.slc b o n c) (some (.v (.int .i64 l))) (some (.v (.int .i64 h))) (.v (.int .i64 m)) H := by
  simp only [asl3, hi, aslc3, aslice3, Option.bind_some, boundA]
  rw [hB]
  exact ⟨rfl, by omega, by omega, by omega, by omega, by simpa only [Int.toNat_natCast] using k⟩
end
theorem DeleteRow_ok (W0 : World) (v : AV) (l : List RowD) (i : Nat) (S : List Nat) (H : AH) (ho : OwnS H S v l) (hi : i < l.length) (hl : l.length ≤ 1000000) :
    ACalls Try.prog W0 150 [v, .v (.int .i64 i), .v (.int .i64 (i + 1 : Nat))] H (fun u H' => ∃ S', OwnS H' S' u (l.take i ++ l.drop (i + 1)) ∧ Upd S H H' S') := by
  rcases ho.flat with ⟨rfl, rfl, rfl⟩ | ⟨b, o, cs, rfl, hB, hle, hbig, rfl, hcs, hok⟩
  · simp at hi
  refine ACalls.wk (R := fun u H' => ∃ u' S', Wk u u' ∧ OwnS H' S' u' (l.take i ++ l.drop (i + 1)) ∧ Upd [b] H H' S') (acalls_cap (by kernel_rfl) hB hle fun c k hnc hck => ?_) (fun u H' ⟨u', S', k1, k2, k3⟩ => ⟨u', k1, S', k2, k3⟩)
  have hok1 : ∀ x ∈ l.take i, Flat.ok x := fun x hx => hok x (List.mem_of_mem_take hx)
  have hok2 : ∀ x ∈ l.drop (i + 1), Flat.ok x := fun x hx => hok x (List.mem_of_mem_drop hx)
  have hoks : ∀ x ∈ l.take i ++ l.drop (i + 1), Flat.ok x := fun x hx => (List.mem_append.1 hx).elim (hok1 x) (hok2 x)
  have hE1 : (encL (l.take i)).length = i * 10 := by rw [encL_len hok1]; simp [Ob.n]; omega
  have hE2 : (encL (l.drop (i + 1))).length = (l.length - (i + 1)) * 10 := by rw [encL_len hok2]; simp [Ob.n]
  have hEm : (Flat.enc l[i]).length = 10 := enc_len (hok _ (List.getElem_mem hi))
  have hEE : encL l = encL (l.take i) ++ (Flat.enc l[i] ++ encL (l.drop (i + 1))) := by rw [← encL_cons, ← encL_append, ← List.drop_eq_getElem_cons hi, List.take_append_drop]
  have hER : encL (l.take i ++ l.drop (i + 1)) = encL (l.take i) ++ encL (l.drop (i + 1)) := by rw [encL_append]
  have hlen : (l.take i ++ l.drop (i + 1)).length = l.length - 1 := by simp; omega
  simp only [Ob.n] at hB hle hcs hck
  obtain ⟨A, D, hCS, hA, hDl⟩ : ∃ A D, cs ++ List.replicate k AV.dead = A ++ (encL (l.take i) ++ (Flat.enc l[i] ++ (encL (l.drop (i + 1)) ++ D))) ∧ A.length = o ∧ o + c * 10 ≤ o + l.length * 10 + D.length := by
    obtain ⟨A, B, C, h1, h2, h3, h4⟩ := cut3 hle
    refine ⟨A, C ++ List.replicate k AV.dead, ?_, h2, ?_⟩
    · have : encL (l.take i) ++ (Flat.enc l[i] ++ (encL (l.drop (i + 1)) ++ (C ++ List.replicate k AV.dead))) = encL l ++ (C ++ List.replicate k AV.dead) := by rw [hEE]; simp
      rw [this, ← hcs, ← h3, h1]; simp
    · have := congrArg List.length h1
      simp only [List.length_append, List.length_replicate] at this hck ⊢
      omega
  rw [show (Ob.n RowD) = 10 from rfl, hCS]
  have hmul : (l.length - (i + 1)) * 10 = l.length * 10 - (i + 1) * 10 := Nat.sub_mul ..
  have hile : (i + 1) * 10 ≤ l.length * 10 := Nat.mul_le_mul_right _ hi
  have hCl : (A ++ (encL (l.take i) ++ (Flat.enc l[i] ++ (encL (l.drop (i + 1)) ++ D)))).length = o + l.length * 10 + D.length := by
    simp only [List.length_append, hA, hE1, hE2, hEm]
    omega
  generalize hgc : A ++ (encL (l.take i) ++ (Flat.enc l[i] ++ (encL (l.drop (i + 1)) ++ D))) = CS at *
  have hsrc : ∀ (H' : AH), H'.blk b = some ⟨CS, 10⟩ → ∀ q, slCells W0 H' 10 (l.length - (i + 1)) (.slc b (o + (i + 1) * 10) (l.length - (i + 1)) q) = some (encL (l.drop (i + 1))) := by
    intro H' h q
    have h1 : o + (i + 1) * 10 + (l.length - (i + 1)) * 10 ≤ CS.length := by rw [hCl]; omega
    simp only [slCells, Nat.le_refl, if_true, h, Option.bind_some, true_and]
    rw [if_pos h1, ← hgc, ← List.append_assoc, ← List.append_assoc, dt_mid (by simp only [List.length_append, hA, hE1, hEm]; omega) hE2]
  obtain ⟨E1, E2, hE, e1, e2⟩ : ∃ E1 E2, Flat.enc l[i] ++ encL (l.drop (i + 1)) = E1 ++ E2 ∧ E1.length = (l.length - (i + 1)) * 10 ∧ E2.length = 10 := by
    refine ⟨(Flat.enc l[i] ++ encL (l.drop (i + 1))).take ((l.length - (i + 1)) * 10), (Flat.enc l[i] ++ encL (l.drop (i + 1))).drop ((l.length - (i + 1)) * 10), (List.take_append_drop _ _).symm, ?_, ?_⟩ <;> simp only [List.length_take, List.length_drop, List.length_append, hEm, hE2] <;> omega
  have hCS2 : CS = A ++ (encL (l.take i) ++ (E1 ++ (E2 ++ D))) := by
    rw [← hgc]
    have : Flat.enc l[i] ++ (encL (l.drop (i + 1)) ++ D) = E1 ++ (E2 ++ D) := by rw [← List.append_assoc, hE, List.append_assoc]
    rw [this]
  have w1 : wr CS (o + i * 10) (encL (l.drop (i + 1))) = A ++ (encL (l.take i) ++ (encL (l.drop (i + 1)) ++ (E2 ++ D))) := by
    have h := wr_at (A := A ++ encL (l.take i)) (B := E1) (C := E2 ++ D) (p := o + i * 10) (by simp only [List.length_append, hA, hE1]) (cs := encL (l.drop (i + 1))) (hE2.trans e1.symm)
    rw [hCS2]; simpa using h
  refine acallw Try.func150 rfl (by kernel_rfl) (by kernel_rfl) fun hc hw => ?_
  obtain ⟨z, hz, hty⟩ : ∃ z : List Value, (z.length = 10 ∧ z.all leafV = true) ∧ (elt Try.prog 46).bind (tyi Try.prog) = some ⟨true, 10, 88, z⟩ := ⟨_, ⟨rfl, rfl⟩, by rw [elt_46, Option.bind_some]; exact tyi_69⟩
  have hj : ((i + 1 : Nat) : Int).toNat = i + 1 := by omega
  have hii : ¬ ((i : Int) = ((i + 1 : Nat) : Int)) := by omega
  repeat' (first | simp -implicitDefEqProofs only [go_sem] | (refine asl3_slc hty (blk_set_self _ _ _) (Nat.le_succ _) hi hnc ?_) | (simp only [Int.toNat_natCast, Nat.sub_zero]) | (refine app_slc (blk_set_self _ _ _) (hsrc _ (blk_set_self _ _ _) _) rfl (all_encL hok2) (by rw [hCl]; omega) (by omega) (by omega) (fun _ => ?_) (fun _ => by exfalso; omega)) | refine acond_decF (by omega) ?_ | ((with_reducible refine adraw_seq ?_ ?_ ?_); (· kernel_rfl); (· decide +kernel)) | (with_reducible refine And.intro (by omega) ?_))
  have hn1 : i + (l.length - (i + 1)) = l.length - 1 := by omega
  have hn2 : l.length - (l.length - 1) = 1 := by omega
  have hZl : (zerosA z 1).length = 10 := by rw [zerosA_length, hz.1]
  have w2 : wr (A ++ (encL (l.take i) ++ (encL (l.drop (i + 1)) ++ (E2 ++ D)))) (o + (l.length - 1) * 10) (zerosA z 1) = A ++ ((encL (l.take i) ++ encL (l.drop (i + 1))) ++ (zerosA z 1 ++ D)) := by
    have h := wr_at (A := A ++ encL (l.take i) ++ encL (l.drop (i + 1))) (B := E2) (C := D) (p := o + (l.length - 1) * 10) (by simp only [List.length_append, hA, hE1, hE2]; omega) (cs := zerosA z 1) (hZl.trans e2.symm)
    simpa using h
  have hCl2 : (A ++ (encL (l.take i) ++ (encL (l.drop (i + 1)) ++ (E2 ++ D)))).length = o + l.length * 10 + D.length := by
    simp only [List.length_append, hA, hE1, hE2, e2]; omega
  rw [hn1, hn2, w1, set_set]
  simp only [abi, abuiltin, hty, slBlk]
  rw [blk_set_self]
  refine ⟨rfl, hz.1, hz.2, by rw [hCl2]; omega, ?_⟩
  simp only
  rw [w2, set_set]
  repeat' (first | simp -implicitDefEqProofs only [go_sem])
  refine retK_one ⟨_, [b], Wk.slc _ _ _ _, OwnS.ofFlat (cs := A ++ ((encL (l.take i) ++ encL (l.drop (i + 1))) ++ (zerosA z 1 ++ D))) (by simp only [go_sem]; rfl) ?_ ?_ (by simp only [big]; omega) hoks (by omega), Nat.le_refl _, ?_, fun x hx => .inl hx, by simp⟩
  · rw [← hER]; exact dt_mid hA (encL_len hoks)
  · rw [← hER]
    have h2 := encL_len hoks
    revert h2
    generalize encL (_ ++ l.drop (i + 1)) = X
    intro h2
    rw [hlen] at h2 ⊢
    rw [show (A ++ (X ++ (zerosA z 1 ++ D))).length = o + (X.length + (zerosA z 1 ++ D).length) by rw [List.length_append, List.length_append, hA], h2]; omega
  · intro x B hx hB2
    have hxb : x ≠ b := by simpa using hx
    simp only [go_sem, if_neg hxb, hB2]
end Go.Proofs.Ytipfnhfcoolhaaa.Aw
