/- The library's Insert at the program's types. -/
import Derived.Test.YtipfnhfcoolhaaaGreatBC
import Derived.Test.YtipfnhfcoolhaaaGreatAty
namespace Go.Proofs.YtipfnhfcoolhaaaGreat.Aw
open Go Go.RowKit
set_option linter.unusedVariables false
set_option linter.unusedSimpArgs false
set_option maxRecDepth 100000
set_option maxHeartbeats 2000000
attribute [-go_sem] wr_eq
theorem all_encL {α : Type} [Ob α] [Own α] [Flat α] {xs : List α} (h : ∀ x ∈ xs, Flat.ok x) : (encL xs).all leafA = true := (Owns.ofFlat (⟨fun _ => none, 0⟩ : AH) h).reps (W0 := default) |>.leaf
theorem wr_at {A B C : List AV} {p : Nat} (hp : A.length = p) {cs : List AV} (hc : cs.length = B.length) : wr (A ++ (B ++ C)) p cs = A ++ (cs ++ C) := by
  subst hp
  simp [wr, hc]
theorem cut3 {L : List AV} {o m : Nat} (h : o + m ≤ L.length) : ∃ A B C, L = A ++ (B ++ C) ∧ A.length = o ∧ B = (L.drop o).take m ∧ B.length = m := by
  refine ⟨L.take o, (L.drop o).take m, (L.drop o).drop m, ?_, by simp; omega, rfl, by simp; omega⟩
  rw [List.take_append_drop, List.take_append_drop]
theorem cut2 {L : List AV} {m : Nat} (h : m ≤ L.length) : ∃ A B, L = A ++ B ∧ A.length = m := ⟨L.take m, L.drop m, (List.take_append_drop m L).symm, by simp; omega⟩
theorem dt_mid {A B C : List AV} {p m : Nat} (hp : A.length = p) (hm : B.length = m) : ((A ++ (B ++ C)).drop p).take m = B := by
  subst hp hm; simp
theorem elt_int : elt Tryz.prog 3 = none := by kernel_rfl
attribute [go_sem] elt_int
theorem overRowD_ok (W0 : World) {a1 a2 : AV} {H : AH} {b o n b' o' n' : Nat} {B B' : Blk} (h1 : slBlk a1 = some (b, o, n)) (h2 : slBlk a2 = some (b', o', n')) (hne : b ≠ b') (hB : H.blk b = some B) (hB' : H.blk b' = some B') : AExt Tryz.prog W0 262 [a1, a2] H (fun v H' => v = .v (.bool false) ∧ H' = H) :=
  over_ext (fn := Tryz.f262) (t := 24) (el := 71) Tryz.func262 (by kernel_rfl) (by kernel_rfl) (by kernel_rfl) (by kernel_rfl) (by kernel_rfl) elt_24 tyi_71 h1 h2 hne hB hB'
theorem InsertRowD_ok (W0 : World) (v : AV) (l : List RowD) (r : RowD) (i bv : Nat) (S : List Nat) (H : AH) (ho : OwnS H S v l) (hi : i ≤ l.length) (hl : l.length ≤ 1000000) (hr : Flat.ok r) (hbv : H.blk bv = some ⟨Flat.enc r, 10⟩) (hd : bv ∉ S) :
    ACalls Tryz.prog W0 225 [v, .v (.int .i64 i), .sl bv 0 1] H (fun u H' => ∃ S', OwnS H' S' u (l.take i ++ r :: l.drop i) ∧ Upd S H H' S') := by
  have hrl : (Flat.enc r).length = 10 := enc_len hr
  have hleaf : (Flat.enc r).all leafA = true := by have := all_encL (xs := [r]) (by simpa using hr); simpa [encL] using this
  have hoks : (∀ x ∈ l, Flat.ok x) → ∀ x ∈ l.take i ++ r :: l.drop i, Flat.ok x := by
    intro h x hx
    rcases List.mem_append.1 hx with hx | hx
    · exact h x (List.mem_of_mem_take hx)
    · rcases List.mem_cons.1 hx with rfl | hx
      · exact hr
      · exact h x (List.mem_of_mem_drop hx)
  have hlen : (l.take i ++ r :: l.drop i).length = l.length + 1 := by simp; omega
  have hnew : ∀ (H' : AH), H'.blk bv = some ⟨Flat.enc r, 10⟩ → slCells W0 H' 10 1 (.sl bv 0 1) = some (Flat.enc r) := by
    intro H' h
    simp only [slCells, Nat.le_refl, if_true, h, Option.bind_some, Nat.zero_add, Nat.one_mul, true_and, hrl, List.drop_zero]
    rw [List.take_of_length_le (by omega)]
  rcases ho.flat with ⟨rfl, rfl, rfl⟩ | ⟨b, o, cs, rfl, hB, hle, hbig, rfl, hcs, hok⟩
  · have hi0 : i = 0 := by simpa using hi
    subst hi0
    refine acallw Tryz.func225 rfl (by kernel_rfl) (by kernel_rfl) fun hc hw => ?_
    repeat' (first | simp -implicitDefEqProofs only [go_sem] | (refine app_nil (hnew _ (by assumption)) rfl hleaf (by decide) (fun h => absurd h (by decide)) (fun _ => ?_)) | refine acond_decF (by omega) ?_ | refine acond_decT (by omega) ?_ | refine acond_ndecF (by omega) ?_ | refine acond_ndecT (by omega) ?_ | refine acond_dec (fun _ => ?_) (fun _ => ?_) | refine acond_ndec (fun _ => ?_) (fun _ => ?_) | refine agrd_dec (fun _ => ?_) (fun _ => ?_) | refine agrd_decf (fun _ => ?_) (fun _ => ?_) | refine agrd_ndec (fun _ => ?_) (fun _ => ?_) | refine agrd_ndecf (fun _ => ?_) (fun _ => ?_) | refine abi_len_sl' (by assumption) ?_ | refine aixs_sln (by assumption) ?_ | refine afa_sl (by assumption) ?_ | (refine aK_sl (by assumption) (by omega) ?_; first | rintro _ ⟨rfl, _⟩ | (intro _ hx; obtain ⟨_, rfl, _, _⟩ := EvD.out hx) | (intro _ hx; obtain ⟨_, _, rfl, _, _, _⟩ := JobD.out hx) | rintro _ ⟨_, rfl, _⟩) | rw [SlR.one (by assumption)] | rw [SlR.leaf (by assumption)] | simp -implicitDefEqProofs (disch := omega) only [wrap_in, u8_small, Int.tmod_eq_emod_of_nonneg, Int.tdiv_eq_ediv_of_nonneg] | refine aK_sub (by assumption) ?_ | refine aix_strn (fun _ _ => ?_) | ((with_reducible refine adraw_seq ?_ ?_ ?_); (· kernel_rfl); (· decide +kernel)) | simp -implicitDefEqProofs only [go_sem, slCells_own, aapp_own] | (with_reducible refine And.intro (by omega) ?_) | refine And.intro (by omega) (And.intro (by omega) ?_) | refine acond_split (fun _ => ?_) (fun _ => ?_) | refine agrd_bt (fun _ => ?_) (fun _ => ?_) | refine agrd_bf (fun _ => ?_) (fun _ => ?_) | refine retK_eq ?_ | refine retK_back (by assumption) ?_ | refine retK_eq2 ?_ | refine retK_back2 (by assumption) ?_ | (with_reducible refine And.intro ?_ ?_))
    refine retK_one ⟨[H.nxt], OwnS.ofFlat (cs := Flat.enc r) (by simp only [go_sem]; rfl) ?_ ?_ (by simp [big]) (by simpa using hr) rfl, Upd.ofSub (Sub.new hw (Sub.refl _) _ _) ⟨by simp, by simp⟩⟩
    · simp only [List.drop_zero, List.length_singleton, Nat.one_mul, encL, List.map_cons, List.map_nil, List.flatten_cons, List.flatten_nil, List.append_nil]; exact List.take_of_length_le (Nat.le_of_eq hrl)
    · simp [Ob.n, hrl]
  have hbne : bv ≠ b := by simpa using hd
  refine ACalls.wk (R := fun u H' => ∃ u' S', Wk u u' ∧ OwnS H' S' u' (l.take i ++ r :: l.drop i) ∧ Upd [b] H H' S') (acalls_cap (by kernel_rfl) hB hle fun c k hnc hck => ?_) (fun u H' ⟨u', S', k1, k2, k3⟩ => ⟨u', k1, S', k2, k3⟩)
  have hE1 : (encL (l.take i)).length = i * 10 := by rw [encL_len (fun x hx => hok x (List.mem_of_mem_take hx))]; simp [Ob.n]; omega
  have hE2 : (encL (l.drop i)).length = (l.length - i) * 10 := by rw [encL_len (fun x hx => hok x (List.mem_of_mem_drop hx))]; simp [Ob.n]
  have hok1 : ∀ x ∈ l.take i, Flat.ok x := fun x hx => hok x (List.mem_of_mem_take hx)
  have hok2 : ∀ x ∈ l.drop i, Flat.ok x := fun x hx => hok x (List.mem_of_mem_drop hx)
  have hEE : encL l = encL (l.take i) ++ encL (l.drop i) := by rw [← encL_append, List.take_append_drop]
  have hER : encL (l.take i ++ r :: l.drop i) = encL (l.take i) ++ (Flat.enc r ++ encL (l.drop i)) := by rw [encL_append, encL_cons]
  simp only [Ob.n] at hB hle hcs hck
  obtain ⟨A, D, hCS, hA, hDl⟩ : ∃ A D, cs ++ List.replicate k AV.dead = A ++ (encL (l.take i) ++ (encL (l.drop i) ++ D)) ∧ A.length = o ∧ o + c * 10 ≤ o + l.length * 10 + D.length := by
    obtain ⟨A, B, C, h1, h2, h3, h4⟩ := cut3 hle
    refine ⟨A, C ++ List.replicate k AV.dead, ?_, h2, ?_⟩
    · rw [← List.append_assoc (encL _), ← hEE, ← hcs, ← h3, h1]; simp
    · have := congrArg List.length h1
      simp only [List.length_append, List.length_replicate] at this hck ⊢
      omega
  rw [show (Ob.n RowD) = 10 from rfl, hCS]
  have hCl : (A ++ (encL (l.take i) ++ (encL (l.drop i) ++ D))).length = o + l.length * 10 + D.length := by
    simp only [List.length_append, hA, hE1, hE2, Nat.sub_mul]
    have : i * 10 ≤ l.length * 10 := Nat.mul_le_mul_right _ hi
    omega
  generalize hgc : A ++ (encL (l.take i) ++ (encL (l.drop i) ++ D)) = CS at *
  have hsrc : ∀ (H' : AH), H'.blk b = some ⟨CS, 10⟩ → ∀ q, slCells W0 H' 10 (l.length - i) (.slc b (o + i * 10) (l.length - i) q) = some (encL (l.drop i)) := by
    intro H' h q
    have h1 : o + i * 10 + (l.length - i) * 10 ≤ CS.length := by rw [hCl, Nat.sub_mul]; have : i * 10 ≤ l.length * 10 := Nat.mul_le_mul_right _ hi; omega
    simp only [slCells, Nat.le_refl, if_true, h, Option.bind_some, true_and]
    rw [if_pos h1, ← hgc, ← List.append_assoc, dt_mid (by simp [hA, hE1]) hE2]
  refine acallw Tryz.func225 rfl (by kernel_rfl) (by kernel_rfl) fun hc hw => ?_
  rcases Nat.lt_or_ge i l.length with hlt | hge
  · have hwr : IntKind.i64.wrap ((l.length : Int) + ((1 : Nat) : Int)) = ((l.length + 1 : Nat) : Int) := by rw [wrap_in _ (by omega) (by omega)]; simp
    have hwi : IntKind.i64.wrap ((i : Int) + ((1 : Nat) : Int)) = ((i + 1 : Nat) : Int) := by rw [wrap_in _ (by omega) (by omega)]; simp
    have hwm : IntKind.i64.wrap (((l.length + 1 : Nat) : Int) - (i : Int)) = ((l.length + 1 - i : Nat) : Int) := by rw [wrap_in _ (by omega) (by omega)]; omega
    have hln : i + (l.length + 1 - i) = l.length + 1 := by omega
    obtain ⟨z, hz, hty⟩ : ∃ z, z.length = 10 ∧ tyi Tryz.prog 71 = some ⟨true, 10, 88, z⟩ := ⟨_, rfl, tyi_71⟩
    have htk : (CS.drop o).take (i * 10) = encL (l.take i) := by rw [← hgc, ← hA, List.drop_left, ← hE1, List.take_left]
    obtain ⟨Z1, Z2, hZ, hZ1, hZ2⟩ : ∃ Z1 Z2, (CS.drop o).take (i * 10) ++ zerosA z (l.length + 1 - i) = encL (l.take i) ++ (Z1 ++ Z2) ∧ Z1.length = 10 ∧ Z2.length = (l.length - i) * 10 := by
      refine ⟨(zerosA z (l.length + 1 - i)).take 10, (zerosA z (l.length + 1 - i)).drop 10, by rw [htk, List.take_append_drop], ?_, ?_⟩ <;> simp only [List.length_take, List.length_drop, zerosA_length, hz]
      · rw [Nat.min_eq_left]; rw [show l.length + 1 - i = (l.length - i) + 1 by omega, Nat.add_mul]; omega
      · rw [show l.length + 1 - i = (l.length - i) + 1 by omega, Nat.add_mul]; omega
    have hm1 : min 1 (l.length + 1 - i) = 1 := by omega
    have hm2 : min (l.length - i) (l.length + 1 - (i + 1)) = l.length - i := by omega
    have hwr2 : ∀ Z : List AV, Z.length = (l.length - i) * 10 → wr (encL (l.take i) ++ (Flat.enc r ++ Z)) ((i + 1) * 10) (encL (l.drop i)) = encL (l.take i) ++ (Flat.enc r ++ encL (l.drop i)) := fun Z hZl => by
      have h := wr_at (A := encL (l.take i) ++ Flat.enc r) (B := Z) (C := []) (p := (i + 1) * 10) (by rw [List.length_append, hE1, hrl, Nat.add_mul, Nat.one_mul]) (cs := encL (l.drop i)) (hE2.trans hZl.symm)
      simpa using h
    have hbvn : bv ≠ H.nxt := fun h => by have h2 := hw.lt ((blk_set_ne H hbne ⟨CS, 10⟩).trans hbv); rw [h] at h2; exact absurd h2 (Nat.lt_irrefl _)
    have hbm : b ≠ H.nxt := fun h => by have h2 := hw.lt (blk_set_self H b ⟨CS, 10⟩); rw [h] at h2; exact absurd h2 (Nat.lt_irrefl _)
    repeat' (first | simp -implicitDefEqProofs only [go_sem] | (rw [hwr]) | (rw [hwi]) | (rw [hwm]) | (simp only [Nat.sub_zero, Int.toNat_natCast]) | refine acond_decF (by omega) ?_ | refine acond_decT (by omega) ?_ | refine acond_ndecF (by omega) ?_ | refine acond_ndecT (by omega) ?_ | refine acond_dec (fun _ => ?_) (fun _ => ?_) | refine acond_ndec (fun _ => ?_) (fun _ => ?_) | refine agrd_dec (fun _ => ?_) (fun _ => ?_) | refine agrd_decf (fun _ => ?_) (fun _ => ?_) | refine agrd_ndec (fun _ => ?_) (fun _ => ?_) | refine agrd_ndecf (fun _ => ?_) (fun _ => ?_) | refine abi_len_sl' (by assumption) ?_ | refine aixs_sln (by assumption) ?_ | refine afa_sl (by assumption) ?_ | (refine aK_sl (by assumption) (by omega) ?_; first | rintro _ ⟨rfl, _⟩ | (intro _ hx; obtain ⟨_, rfl, _, _⟩ := EvD.out hx) | (intro _ hx; obtain ⟨_, _, rfl, _, _, _⟩ := JobD.out hx) | rintro _ ⟨_, rfl, _⟩) | rw [SlR.one (by assumption)] | rw [SlR.leaf (by assumption)] | simp -implicitDefEqProofs (disch := omega) only [wrap_in, u8_small, Int.tmod_eq_emod_of_nonneg, Int.tdiv_eq_ediv_of_nonneg] | refine aK_sub (by assumption) ?_ | refine aix_strn (fun _ _ => ?_) | ((with_reducible refine adraw_seq ?_ ?_ ?_); (· kernel_rfl); (· decide +kernel)) | simp -implicitDefEqProofs only [go_sem, slCells_own, aapp_own] | (with_reducible refine And.intro (by omega) ?_) | refine And.intro (by omega) (And.intro (by omega) ?_) | refine acond_split (fun _ => ?_) (fun _ => ?_) | refine agrd_bt (fun _ => ?_) (fun _ => ?_) | refine agrd_bf (fun _ => ?_) (fun _ => ?_) | refine retK_eq ?_ | refine retK_back (by assumption) ?_ | refine retK_eq2 ?_ | refine retK_back2 (by assumption) ?_ | (with_reducible refine And.intro ?_ ?_))
    · refine appz_slc hty (blk_set_self _ _ _) (by simp only; omega) (by omega) (by simp only; omega) (by omega) ?_ (by simp only; decide) (by simp only; decide) hz
      simp only [hln, hZ]
      repeat' (first | simp -implicitDefEqProofs only [go_sem] | refine acond_decF (by omega) ?_ | refine acond_decT (by omega) ?_ | refine acond_ndecF (by omega) ?_ | refine acond_ndecT (by omega) ?_ | refine acond_dec (fun _ => ?_) (fun _ => ?_) | refine acond_ndec (fun _ => ?_) (fun _ => ?_) | refine agrd_dec (fun _ => ?_) (fun _ => ?_) | refine agrd_decf (fun _ => ?_) (fun _ => ?_) | refine agrd_ndec (fun _ => ?_) (fun _ => ?_) | refine agrd_ndecf (fun _ => ?_) (fun _ => ?_) | refine abi_len_sl' (by assumption) ?_ | refine aixs_sln (by assumption) ?_ | refine afa_sl (by assumption) ?_ | (refine aK_sl (by assumption) (by omega) ?_; first | rintro _ ⟨rfl, _⟩ | (intro _ hx; obtain ⟨_, rfl, _, _⟩ := EvD.out hx) | (intro _ hx; obtain ⟨_, _, rfl, _, _, _⟩ := JobD.out hx) | rintro _ ⟨_, rfl, _⟩) | rw [SlR.one (by assumption)] | rw [SlR.leaf (by assumption)] | simp -implicitDefEqProofs (disch := omega) only [wrap_in, u8_small, Int.tmod_eq_emod_of_nonneg, Int.tdiv_eq_ediv_of_nonneg] | refine aK_sub (by assumption) ?_ | refine aix_strn (fun _ _ => ?_) | ((with_reducible refine adraw_seq ?_ ?_ ?_); (· kernel_rfl); (· decide +kernel)) | simp -implicitDefEqProofs only [go_sem, slCells_own, aapp_own] | (with_reducible refine And.intro (by omega) ?_) | refine And.intro (by omega) (And.intro (by omega) ?_) | refine acond_split (fun _ => ?_) (fun _ => ?_) | refine agrd_bt (fun _ => ?_) (fun _ => ?_) | refine agrd_bf (fun _ => ?_) (fun _ => ?_) | refine retK_eq ?_ | refine retK_back (by assumption) ?_ | refine retK_eq2 ?_ | refine retK_back2 (by assumption) ?_ | (with_reducible refine And.intro ?_ ?_))
      refine copy_rule (cs := encL (l.take i) ++ (Z1 ++ Z2)) (new := Flat.enc r) ?_ ?_ hleaf ?_ ?_
      · simp only [go_sem]
      · rw [hm1]; exact hnew _ (by simp only [go_sem, if_neg hbvn, if_neg hbne, hbv])
      · simp only [List.length_append, hE1, hZ1, hZ2, Nat.sub_mul, Nat.add_mul]
        have : i * 10 ≤ l.length * 10 := Nat.mul_le_mul_right _ hi
        omega
      rw [wr_at hE1 (hrl.trans hZ1.symm)]
      repeat' (first | simp -implicitDefEqProofs only [go_sem] | (simp only [if_neg hbm]) | (rw [hwi]) | (simp only [Int.toNat_natCast, hln]) | refine acond_decF (by omega) ?_ | refine acond_decT (by omega) ?_ | refine acond_ndecF (by omega) ?_ | refine acond_ndecT (by omega) ?_ | refine acond_dec (fun _ => ?_) (fun _ => ?_) | refine acond_ndec (fun _ => ?_) (fun _ => ?_) | refine agrd_dec (fun _ => ?_) (fun _ => ?_) | refine agrd_decf (fun _ => ?_) (fun _ => ?_) | refine agrd_ndec (fun _ => ?_) (fun _ => ?_) | refine agrd_ndecf (fun _ => ?_) (fun _ => ?_) | refine abi_len_sl' (by assumption) ?_ | refine aixs_sln (by assumption) ?_ | refine afa_sl (by assumption) ?_ | (refine aK_sl (by assumption) (by omega) ?_; first | rintro _ ⟨rfl, _⟩ | (intro _ hx; obtain ⟨_, rfl, _, _⟩ := EvD.out hx) | (intro _ hx; obtain ⟨_, _, rfl, _, _, _⟩ := JobD.out hx) | rintro _ ⟨_, rfl, _⟩) | rw [SlR.one (by assumption)] | rw [SlR.leaf (by assumption)] | simp -implicitDefEqProofs (disch := omega) only [wrap_in, u8_small, Int.tmod_eq_emod_of_nonneg, Int.tdiv_eq_ediv_of_nonneg] | refine aK_sub (by assumption) ?_ | refine aix_strn (fun _ _ => ?_) | ((with_reducible refine adraw_seq ?_ ?_ ?_); (· kernel_rfl); (· decide +kernel)) | simp -implicitDefEqProofs only [go_sem, slCells_own, aapp_own] | (with_reducible refine And.intro (by omega) ?_) | refine And.intro (by omega) (And.intro (by omega) ?_) | refine acond_split (fun _ => ?_) (fun _ => ?_) | refine agrd_bt (fun _ => ?_) (fun _ => ?_) | refine agrd_bf (fun _ => ?_) (fun _ => ?_) | refine retK_eq ?_ | refine retK_back (by assumption) ?_ | refine retK_eq2 ?_ | refine retK_back2 (by assumption) ?_ | (with_reducible refine And.intro ?_ ?_))
      refine copy_rule (cs := encL (l.take i) ++ (Flat.enc r ++ Z2)) (new := encL (l.drop i)) ?_ ?_ (all_encL hok2) ?_ ?_
      · simp only [go_sem]
      · rw [hm2]; exact hsrc _ (by simp only [go_sem, if_neg hbm]) _
      · simp only [List.length_append, hE1, hrl, hZ2, Nat.sub_mul, Nat.add_mul]
        have : i * 10 ≤ l.length * 10 := Nat.mul_le_mul_right _ hi
        omega
      rw [hwr2 _ hZ2]
      repeat' (first | simp -implicitDefEqProofs only [go_sem] | refine acond_decF (by omega) ?_ | refine acond_decT (by omega) ?_ | refine acond_ndecF (by omega) ?_ | refine acond_ndecT (by omega) ?_ | refine acond_dec (fun _ => ?_) (fun _ => ?_) | refine acond_ndec (fun _ => ?_) (fun _ => ?_) | refine agrd_dec (fun _ => ?_) (fun _ => ?_) | refine agrd_decf (fun _ => ?_) (fun _ => ?_) | refine agrd_ndec (fun _ => ?_) (fun _ => ?_) | refine agrd_ndecf (fun _ => ?_) (fun _ => ?_) | refine abi_len_sl' (by assumption) ?_ | refine aixs_sln (by assumption) ?_ | refine afa_sl (by assumption) ?_ | (refine aK_sl (by assumption) (by omega) ?_; first | rintro _ ⟨rfl, _⟩ | (intro _ hx; obtain ⟨_, rfl, _, _⟩ := EvD.out hx) | (intro _ hx; obtain ⟨_, _, rfl, _, _, _⟩ := JobD.out hx) | rintro _ ⟨_, rfl, _⟩) | rw [SlR.one (by assumption)] | rw [SlR.leaf (by assumption)] | simp -implicitDefEqProofs (disch := omega) only [wrap_in, u8_small, Int.tmod_eq_emod_of_nonneg, Int.tdiv_eq_ediv_of_nonneg] | refine aK_sub (by assumption) ?_ | refine aix_strn (fun _ _ => ?_) | ((with_reducible refine adraw_seq ?_ ?_ ?_); (· kernel_rfl); (· decide +kernel)) | simp -implicitDefEqProofs only [go_sem, slCells_own, aapp_own] | (with_reducible refine And.intro (by omega) ?_) | refine And.intro (by omega) (And.intro (by omega) ?_) | refine acond_split (fun _ => ?_) (fun _ => ?_) | refine agrd_bt (fun _ => ?_) (fun _ => ?_) | refine agrd_bf (fun _ => ?_) (fun _ => ?_) | refine retK_eq ?_ | refine retK_back (by assumption) ?_ | refine retK_eq2 ?_ | refine retK_back2 (by assumption) ?_ | (with_reducible refine And.intro ?_ ?_))
      refine retK_one ⟨_, [H.nxt], Wk.refl _, OwnS.ofFlat (cs := encL (l.take i) ++ (Flat.enc r ++ encL (l.drop i))) (by simp only [go_sem]; rfl) ?_ ?_ (by simp only [big]; omega) (hoks hok) (by omega), Nat.le_succ _, ?_, ?_, by simp⟩
      · rw [← hER, List.drop_zero]; exact List.take_of_length_le (by rw [encL_len (hoks hok)]; exact Nat.le_refl _)
      · rw [← hER, encL_len (hoks hok)]; omega
      · intro x B hx hB2
        have hxb : x ≠ b := by simpa using hx
        have hxn : x ≠ H.nxt := fun h => by have h2 := hw.lt ((blk_set_ne H hxb ⟨CS, 10⟩).trans hB2); rw [h] at h2; exact absurd h2 (Nat.lt_irrefl _)
        simp only [go_sem, if_neg hxb, if_neg hxn, hB2]
      · intro x hx; exact .inr (by simp at hx; omega)
    · refine ACallK.ofE (overRowD_ok _ rfl rfl hbne (by rw [blk_set_ne _ hbne]; exact hbv) (blk_set_self _ _ _)) ?_
      rintro _ _ ⟨rfl, rfl⟩
      have hcn : l.length + 1 ≤ c := by omega
      obtain ⟨E1, E2, E3, hE, e1, -, e3⟩ := cut3 (L := encL (l.drop i) ++ D) (o := 10) (m := (l.length - i) * 10) (by rw [List.length_append, hE2]; omega)
      have hCS2 : CS = A ++ (encL (l.take i) ++ (E1 ++ (E2 ++ E3))) := by rw [← hgc, hE]
      have w1 : wr CS (o + (i + 1) * 10) (encL (l.drop i)) = A ++ (encL (l.take i) ++ (E1 ++ (encL (l.drop i) ++ E3))) := by
        have h := wr_at (A := A ++ encL (l.take i) ++ E1) (B := E2) (C := E3) (p := o + (i + 1) * 10) (by simp only [List.length_append, hA, hE1, e1, Nat.add_mul]; omega) (cs := encL (l.drop i)) (hE2.trans e3.symm)
        rw [hCS2]; simpa using h
      have w2 : wr (A ++ (encL (l.take i) ++ (E1 ++ (encL (l.drop i) ++ E3)))) (o + i * 10) (Flat.enc r) = A ++ ((encL (l.take i) ++ (Flat.enc r ++ encL (l.drop i))) ++ E3) := by
        have h := wr_at (A := A ++ encL (l.take i)) (B := E1) (C := encL (l.drop i) ++ E3) (p := o + i * 10) (by simp only [List.length_append, hA, hE1]) (cs := Flat.enc r) (hrl.trans e1.symm)
        simpa using h
      have hsrc2 : slCells W0 (H.set b ⟨CS, 10⟩) 10 (l.length - i) (.slc b (o + i * 10) (l.length + 1 - i) (c - i)) = some (encL (l.drop i)) := by
        have h1 : o + i * 10 + (l.length - i) * 10 ≤ CS.length := by rw [hCl, Nat.sub_mul]; have : i * 10 ≤ l.length * 10 := Nat.mul_le_mul_right _ hi; omega
        simp only [slCells, blk_set_self, Option.bind_some, true_and]
        rw [if_pos (by omega), if_pos h1, ← hgc, ← List.append_assoc, dt_mid (by simp [hA, hE1]) hE2]
      have hm3 : min (l.length + 1 - i) (l.length + 1 - (i + 1)) = l.length - i := by omega
      have hm4 : min 1 (l.length + 1 - i) = 1 := by omega
      have hlC := congrArg List.length w1
      repeat' (first | simp -implicitDefEqProofs only [go_sem] | (rw [hwi]) | (simp only [Int.toNat_natCast, hln, Nat.sub_zero]) | refine acond_decF (by omega) ?_ | refine acond_decT (by omega) ?_ | refine acond_ndecF (by omega) ?_ | refine acond_ndecT (by omega) ?_ | refine acond_dec (fun _ => ?_) (fun _ => ?_) | refine acond_ndec (fun _ => ?_) (fun _ => ?_) | refine agrd_dec (fun _ => ?_) (fun _ => ?_) | refine agrd_decf (fun _ => ?_) (fun _ => ?_) | refine agrd_ndec (fun _ => ?_) (fun _ => ?_) | refine agrd_ndecf (fun _ => ?_) (fun _ => ?_) | refine abi_len_sl' (by assumption) ?_ | refine aixs_sln (by assumption) ?_ | refine afa_sl (by assumption) ?_ | (refine aK_sl (by assumption) (by omega) ?_; first | rintro _ ⟨rfl, _⟩ | (intro _ hx; obtain ⟨_, rfl, _, _⟩ := EvD.out hx) | (intro _ hx; obtain ⟨_, _, rfl, _, _, _⟩ := JobD.out hx) | rintro _ ⟨_, rfl, _⟩) | rw [SlR.one (by assumption)] | rw [SlR.leaf (by assumption)] | simp -implicitDefEqProofs (disch := omega) only [wrap_in, u8_small, Int.tmod_eq_emod_of_nonneg, Int.tdiv_eq_ediv_of_nonneg] | refine aK_sub (by assumption) ?_ | refine aix_strn (fun _ _ => ?_) | ((with_reducible refine adraw_seq ?_ ?_ ?_); (· kernel_rfl); (· decide +kernel)) | simp -implicitDefEqProofs only [go_sem, slCells_own, aapp_own] | (with_reducible refine And.intro (by omega) ?_) | refine And.intro (by omega) (And.intro (by omega) ?_) | refine acond_split (fun _ => ?_) (fun _ => ?_) | refine agrd_bt (fun _ => ?_) (fun _ => ?_) | refine agrd_bf (fun _ => ?_) (fun _ => ?_) | refine retK_eq ?_ | refine retK_back (by assumption) ?_ | refine retK_eq2 ?_ | refine retK_back2 (by assumption) ?_ | (with_reducible refine And.intro ?_ ?_))
      refine copy_rule (cs := CS) (new := encL (l.drop i)) (blk_set_self _ _ _) (by rw [hm3]; exact hsrc2) (all_encL hok2) ?_ ?_
      · rw [hCl, Nat.sub_mul, Nat.add_mul]; omega
      rw [w1]
      repeat' (first | simp -implicitDefEqProofs only [go_sem] | (simp only [Nat.sub_zero]) | refine acond_decF (by omega) ?_ | refine acond_decT (by omega) ?_ | refine acond_ndecF (by omega) ?_ | refine acond_ndecT (by omega) ?_ | refine acond_dec (fun _ => ?_) (fun _ => ?_) | refine acond_ndec (fun _ => ?_) (fun _ => ?_) | refine agrd_dec (fun _ => ?_) (fun _ => ?_) | refine agrd_decf (fun _ => ?_) (fun _ => ?_) | refine agrd_ndec (fun _ => ?_) (fun _ => ?_) | refine agrd_ndecf (fun _ => ?_) (fun _ => ?_) | refine abi_len_sl' (by assumption) ?_ | refine aixs_sln (by assumption) ?_ | refine afa_sl (by assumption) ?_ | (refine aK_sl (by assumption) (by omega) ?_; first | rintro _ ⟨rfl, _⟩ | (intro _ hx; obtain ⟨_, rfl, _, _⟩ := EvD.out hx) | (intro _ hx; obtain ⟨_, _, rfl, _, _, _⟩ := JobD.out hx) | rintro _ ⟨_, rfl, _⟩) | rw [SlR.one (by assumption)] | rw [SlR.leaf (by assumption)] | simp -implicitDefEqProofs (disch := omega) only [wrap_in, u8_small, Int.tmod_eq_emod_of_nonneg, Int.tdiv_eq_ediv_of_nonneg] | refine aK_sub (by assumption) ?_ | refine aix_strn (fun _ _ => ?_) | ((with_reducible refine adraw_seq ?_ ?_ ?_); (· kernel_rfl); (· decide +kernel)) | simp -implicitDefEqProofs only [go_sem, slCells_own, aapp_own] | (with_reducible refine And.intro (by omega) ?_) | refine And.intro (by omega) (And.intro (by omega) ?_) | refine acond_split (fun _ => ?_) (fun _ => ?_) | refine agrd_bt (fun _ => ?_) (fun _ => ?_) | refine agrd_bf (fun _ => ?_) (fun _ => ?_) | refine retK_eq ?_ | refine retK_back (by assumption) ?_ | refine retK_eq2 ?_ | refine retK_back2 (by assumption) ?_ | (with_reducible refine And.intro ?_ ?_))
      refine copy_rule (cs := A ++ (encL (l.take i) ++ (E1 ++ (encL (l.drop i) ++ E3)))) (new := Flat.enc r) (blk_set_self _ _ _) (by rw [hm4]; exact hnew _ (by simp only [go_sem, if_neg hbne, hbv])) hleaf ?_ ?_
      · have : i * 10 ≤ l.length * 10 := Nat.mul_le_mul_right _ hi
        rw [← w1, wr_length _ _ _ (by rw [hCl, hE2, Nat.sub_mul, Nat.add_mul]; omega), hCl, Nat.sub_mul, Nat.add_mul]
        omega
      rw [w2]
      repeat' (first | simp -implicitDefEqProofs only [go_sem] | refine acond_decF (by omega) ?_ | refine acond_decT (by omega) ?_ | refine acond_ndecF (by omega) ?_ | refine acond_ndecT (by omega) ?_ | refine acond_dec (fun _ => ?_) (fun _ => ?_) | refine acond_ndec (fun _ => ?_) (fun _ => ?_) | refine agrd_dec (fun _ => ?_) (fun _ => ?_) | refine agrd_decf (fun _ => ?_) (fun _ => ?_) | refine agrd_ndec (fun _ => ?_) (fun _ => ?_) | refine agrd_ndecf (fun _ => ?_) (fun _ => ?_) | refine abi_len_sl' (by assumption) ?_ | refine aixs_sln (by assumption) ?_ | refine afa_sl (by assumption) ?_ | (refine aK_sl (by assumption) (by omega) ?_; first | rintro _ ⟨rfl, _⟩ | (intro _ hx; obtain ⟨_, rfl, _, _⟩ := EvD.out hx) | (intro _ hx; obtain ⟨_, _, rfl, _, _, _⟩ := JobD.out hx) | rintro _ ⟨_, rfl, _⟩) | rw [SlR.one (by assumption)] | rw [SlR.leaf (by assumption)] | simp -implicitDefEqProofs (disch := omega) only [wrap_in, u8_small, Int.tmod_eq_emod_of_nonneg, Int.tdiv_eq_ediv_of_nonneg] | refine aK_sub (by assumption) ?_ | refine aix_strn (fun _ _ => ?_) | ((with_reducible refine adraw_seq ?_ ?_ ?_); (· kernel_rfl); (· decide +kernel)) | simp -implicitDefEqProofs only [go_sem, slCells_own, aapp_own] | (with_reducible refine And.intro (by omega) ?_) | refine And.intro (by omega) (And.intro (by omega) ?_) | refine acond_split (fun _ => ?_) (fun _ => ?_) | refine agrd_bt (fun _ => ?_) (fun _ => ?_) | refine agrd_bf (fun _ => ?_) (fun _ => ?_) | refine retK_eq ?_ | refine retK_back (by assumption) ?_ | refine retK_eq2 ?_ | refine retK_back2 (by assumption) ?_ | (with_reducible refine And.intro ?_ ?_))
      refine retK_one ⟨_, [b], Wk.slc _ _ _ _, OwnS.ofFlat (cs := A ++ ((encL (l.take i) ++ (Flat.enc r ++ encL (l.drop i))) ++ E3)) (by simp only [go_sem]; rfl) ?_ ?_ (by simp only [big]; omega) (hoks hok) (by omega), Nat.le_refl _, ?_, fun x hx => .inl hx, by simp⟩
      · rw [← hER]; exact dt_mid hA (encL_len (hoks hok))
      · rw [← hER]
        have h2 := encL_len (hoks hok)
        revert h2
        generalize encL (_ ++ r :: _) = X
        intro h2
        rw [show (A ++ (X ++ E3)).length = o + (X.length + E3.length) by rw [List.length_append, List.length_append, hA], h2]; omega
      · intro x B hx hB2
        have hxb : x ≠ b := by simpa using hx
        simp only [go_sem, if_neg hxb, hB2]
  · have hie : i = l.length := by omega
    have htl : l.take i = l := by rw [hie]; exact List.take_of_length_le (Nat.le_refl _)
    have hdl : l.drop i = [] := by rw [hie]; exact List.drop_of_length_le (Nat.le_refl _)
    rw [htl, hdl] at hER
    rw [htl] at hE1
    repeat' (first | simp -implicitDefEqProofs only [go_sem] | (refine app_slc (blk_set_self _ _ _) (hnew _ (by rw [blk_set_ne _ hbne]; exact hbv)) rfl hleaf (by omega) (by omega) (by omega) (fun hcn => ?_) (fun hcn => ?_)) | refine acond_decF (by omega) ?_ | refine acond_decT (by omega) ?_ | refine acond_ndecF (by omega) ?_ | refine acond_ndecT (by omega) ?_ | refine acond_dec (fun _ => ?_) (fun _ => ?_) | refine acond_ndec (fun _ => ?_) (fun _ => ?_) | refine agrd_dec (fun _ => ?_) (fun _ => ?_) | refine agrd_decf (fun _ => ?_) (fun _ => ?_) | refine agrd_ndec (fun _ => ?_) (fun _ => ?_) | refine agrd_ndecf (fun _ => ?_) (fun _ => ?_) | refine abi_len_sl' (by assumption) ?_ | refine aixs_sln (by assumption) ?_ | refine afa_sl (by assumption) ?_ | (refine aK_sl (by assumption) (by omega) ?_; first | rintro _ ⟨rfl, _⟩ | (intro _ hx; obtain ⟨_, rfl, _, _⟩ := EvD.out hx) | (intro _ hx; obtain ⟨_, _, rfl, _, _, _⟩ := JobD.out hx) | rintro _ ⟨_, rfl, _⟩) | rw [SlR.one (by assumption)] | rw [SlR.leaf (by assumption)] | simp -implicitDefEqProofs (disch := omega) only [wrap_in, u8_small, Int.tmod_eq_emod_of_nonneg, Int.tdiv_eq_ediv_of_nonneg] | refine aK_sub (by assumption) ?_ | refine aix_strn (fun _ _ => ?_) | ((with_reducible refine adraw_seq ?_ ?_ ?_); (· kernel_rfl); (· decide +kernel)) | simp -implicitDefEqProofs only [go_sem, slCells_own, aapp_own] | (with_reducible refine And.intro (by omega) ?_) | refine And.intro (by omega) (And.intro (by omega) ?_) | refine acond_split (fun _ => ?_) (fun _ => ?_) | refine agrd_bt (fun _ => ?_) (fun _ => ?_) | refine agrd_bf (fun _ => ?_) (fun _ => ?_) | refine retK_eq ?_ | refine retK_back (by assumption) ?_ | refine retK_eq2 ?_ | refine retK_back2 (by assumption) ?_ | (with_reducible refine And.intro ?_ ?_))
    · obtain ⟨E1, E3, hE, e1⟩ := cut2 (L := D) (m := 10) (by omega)
      have w1 : wr CS (o + l.length * 10) (Flat.enc r) = A ++ ((encL l ++ (Flat.enc r ++ encL ([] : List RowD))) ++ E3) := by
        have h := wr_at (A := A ++ encL l) (B := E1) (C := E3) (p := o + l.length * 10) (by simp only [List.length_append, hA, hE1, hie]) (cs := Flat.enc r) (hrl.trans e1.symm)
        rw [← hgc, htl, hdl, hE]; simpa [encL] using h
      rw [w1, htl, hdl]
      rw [htl, hdl] at hoks hlen
      refine retK_one ⟨_, [b], Wk.slc _ _ _ _, OwnS.ofFlat (cs := A ++ ((encL l ++ (Flat.enc r ++ encL ([] : List RowD))) ++ E3)) (by simp only [go_sem]; rfl) ?_ ?_ (by simp only [big]; omega) (hoks hok) (by omega), Nat.le_refl _, ?_, fun x hx => .inl hx, by simp⟩
      · rw [← hER]; exact dt_mid hA (encL_len (hoks hok))
      · rw [← hER]
        have h2 := encL_len (hoks hok)
        revert h2
        generalize encL (_ ++ r :: _) = X
        intro h2
        rw [show (A ++ (X ++ E3)).length = o + (X.length + E3.length) by rw [List.length_append, List.length_append, hA], h2]; omega
      · intro x B hx hB2
        have hxb : x ≠ b := by simpa using hx
        simp only [go_sem, if_neg hxb, hB2]
    · have htk : (CS.drop o).take (l.length * 10) = encL l := by rw [← hgc, ← hA, List.drop_left, htl, ← (show (encL l).length = l.length * 10 by rw [hE1, hie]), List.take_left]
      have hcs3 : encL l ++ Flat.enc r = encL (l ++ r :: []) := by rw [hER]; simp [encL]
      rw [htk, htl, hdl, hcs3]
      rw [htl, hdl] at hoks hlen
      refine retK_one ⟨_, [H.nxt], Wk.refl _, OwnS.ofFlat (cs := encL (l ++ r :: [])) (by simp only [go_sem]; rfl) ?_ ?_ (by simp only [big]; omega) (hoks hok) (by omega), Nat.le_succ _, ?_, ?_, by simp⟩
      · rw [List.drop_zero]; exact List.take_of_length_le (by rw [encL_len (hoks hok)]; exact Nat.le_refl _)
      · rw [encL_len (hoks hok)]; omega
      · intro x B hx hB2
        have hxb : x ≠ b := by simpa using hx
        have hxn : x ≠ H.nxt := fun h => by have h2 := hw.lt ((blk_set_ne H hxb ⟨CS, 10⟩).trans hB2); rw [h] at h2; exact absurd h2 (Nat.lt_irrefl _)
        simp only [go_sem, if_neg hxb, if_neg hxn, hB2]
      · intro x hx; exact .inr (by simp at hx; omega)
end Go.Proofs.YtipfnhfcoolhaaaGreat.Aw
