/-
  Numbers' texts read back: plain law.
-/
import Derived.Test.YtcjjmejmpdhikaaGreatDoorNum
namespace Go.Proofs.YtcjjmejmpdhikaaGreatDoor
set_option linter.unusedSimpArgs false
set_option linter.unusedVariables false

def valL : List Nat → Nat
  | [] => 0
  | x :: l => x + B9 * valL l
theorem RightD.tail {x : Nat} {l : List Nat} (h : RightD (x :: l)) : RightD l := by
  refine ⟨fun y hy => h.1 y (by simp [hy]), ?_⟩
  have h2 := h.2
  rw [drop0_cons] at h2
  split at h2
  · rename_i he
    split at h2
    · cases h2
    · injection h2 with _ h3; rw [← h3]; rfl
  · injection h2
theorem RightD.top {x : Nat} (h : RightD [x]) : x ≠ 0 := by
  intro e
  subst e
  have := h.2
  simp [drop0] at this
theorem valL_pos : ∀ {l : List Nat}, RightD l → l ≠ [] → 0 < valL l
  | [], _, h => absurd rfl h
  | [x], h, _ => by have := h.top; simp [valL]; omega
  | x :: y :: l, h, _ => by
    have := valL_pos h.tail (by simp)
    rw [valL]
    have := Nat.mul_pos (show 0 < B9 by decide) this
    omega
theorem valL_inj : ∀ {l m : List Nat}, RightD l → RightD m → valL l = valL m → l = m
  | [], [], _, _, _ => rfl
  | [], y :: m, _, h, e => by have := valL_pos h (by simp); rw [← e] at this; simp [valL] at this
  | x :: l, [], h, _, e => by have := valL_pos h (by simp); rw [e] at this; simp [valL] at this
  | x :: l, y :: m, h, g, e => by
    have hx := h.1 x (by simp)
    have hy := g.1 y (by simp)
    rw [valL, valL] at e
    have e1 : x = y := by
      have := congrArg (· % B9) e
      simp only [Nat.add_mul_mod_self_left] at this
      rwa [Nat.mod_eq_of_lt hx, Nat.mod_eq_of_lt hy] at this
    subst e1
    have e2 : valL l = valL m := Nat.eq_of_mul_eq_mul_left (show 0 < B9 by decide) (by omega)
    rw [valL_inj h.tail g.tail e2]

theorem valD_app (s u : List UInt8) : valD (s ++ u) = valD s * 10 ^ u.length + valD u := by
  induction u using snocInd with
  | nil => simp [valD]
  | append_singleton u b ih =>
    rw [← List.append_assoc, valD_append, ih, valD_append, List.length_append, List.length_singleton, Nat.pow_succ, Nat.add_mul, Nat.mul_assoc]
    omega
theorem dig_toNat (d : Nat) (h : d < 10) : (UInt8.ofNat (48 + d)).toNat = 48 + d := by
  rw [UInt8.toNat_ofNat']; omega
theorem valD_dec (n : Nat) : valD (dec n) = n := by
  induction n using Nat.strongRecOn with
  | ind n ih =>
    rw [dec]
    split
    · rename_i h
      simp only [valD, List.foldl_cons, List.foldl_nil]
      rw [dig_toNat n h]; omega
    · rw [valD_append, ih _ (by omega), dig_toNat _ (by omega)]; omega
theorem isDec_dec (n : Nat) : isDec (dec n) = true := by
  induction n using Nat.strongRecOn with
  | ind n ih =>
    rw [dec]
    split
    · rename_i h
      simp only [isDec, List.all_cons, List.all_nil]
      rw [dig_toNat n h]; simp; omega
    · have := ih (n / 10) (by omega)
      simp only [isDec, List.all_append, List.all_cons, List.all_nil] at this ⊢
      rw [this, dig_toNat _ (by omega)]; simp; omega
theorem dec_ne (n : Nat) : dec n ≠ [] := by
  rw [dec]; split <;> simp
theorem dec_head (n : Nat) (h : n ≠ 0) : (dec n).head? ≠ some 48 := by
  induction n using Nat.strongRecOn with
  | ind n ih =>
    rw [dec]
    split
    · rename_i h2
      intro e
      simp only [List.head?_cons, Option.some.injEq] at e
      have := congrArg UInt8.toNat e
      rw [dig_toNat n h2] at this
      have : (48 : UInt8).toNat = 48 := rfl
      omega
    · have h3 := ih (n / 10) (by omega) (by omega)
      rw [List.head?_append]
      have := dec_ne (n / 10)
      cases hd : dec (n / 10) with
      | nil => exact absurd hd this
      | cons a l => rw [hd] at h3; simpa using h3
theorem dec_lenk (n : Nat) (k : Nat) (h : n < 10 ^ (k + 1)) : (dec n).length ≤ k + 1 := by
  induction k generalizing n with
  | zero => rw [dec, dif_pos (by simpa using h)]; simp
  | succ k ih =>
    rw [dec]
    split
    · simp
    · rw [List.length_append, List.length_singleton]
      have := ih (n / 10) (by rw [Nat.pow_succ] at h; omega)
      omega
theorem valD_rep (k : Nat) (s : List UInt8) : valD (List.replicate k 48 ++ s) = valD s := by
  induction k with
  | zero => rfl
  | succ k ih => rw [List.replicate_succ, List.cons_append, valD_zero, ih]
theorem padN_facts (x : Nat) (h : x < B9) : valD (padN 9 x) = x ∧ (padN 9 x).length = 9 ∧ isDec (padN 9 x) = true := by
  have hl := dec_lenk x 8 (by unfold B9 at h; simpa using h)
  unfold padN
  refine ⟨by rw [valD_rep, valD_dec], by simp; omega, ?_⟩
  simp only [isDec, List.all_append, Bool.and_eq_true]
  refine ⟨?_, isDec_dec x⟩
  rw [List.all_eq_true]
  intro b hb
  rw [(List.mem_replicate.1 hb).2]
  rfl
theorem natText_facts : ∀ (l : List Nat), RightD l → valD (natText l) = valL l ∧ isDec (natText l) = true ∧ natText l ≠ [] ∧ (l ≠ [] → (natText l).head? ≠ some 48)
  | [], _ => by
    have : natText [] = dec 0 := rfl
    rw [this]
    exact ⟨valD_dec 0, isDec_dec 0, dec_ne 0, fun h => absurd rfl h⟩
  | [x], h => by
    have : natText [x] = dec x := by simp [natText]
    rw [this]
    exact ⟨by rw [valD_dec]; simp [valL], isDec_dec x, dec_ne x, fun _ => dec_head x h.top⟩
  | x :: y :: l, h => by
    obtain ⟨h1, h2, h3, h4⟩ := natText_facts (y :: l) h.tail
    obtain ⟨g1, g2, g3⟩ := padN_facts x (h.1 x (by simp))
    rw [natText_cons (by simp)]
    refine ⟨?_, ?_, ?_, fun _ => ?_⟩
    · rw [valD_app, h1, g1, g2, show valL (x :: y :: l) = x + B9 * valL (y :: l) from rfl]
      have : B9 = 10 ^ 9 := rfl
      rw [this, Nat.mul_comm]; omega
    · simp only [isDec, List.all_append, Bool.and_eq_true] at h2 g3 ⊢; exact ⟨h2, g3⟩
    · simp [h3]
    · have := h4 (by simp)
      cases hn : natText (y :: l) with
      | nil => exact absurd hn h3
      | cons a r => rw [hn] at this; simpa using this
theorem natText_inj {l m : List Nat} (h : RightD l) (g : RightD m) (e : natText l = natText m) : l = m := valL_inj h g (by rw [← (natText_facts l h).1, ← (natText_facts m g).1, e])
theorem natOf_back {l : List Nat} (h : RightD l) : natOf (natText l) = some l := by
  obtain ⟨_, h2, h3, h4⟩ := natText_facts l h
  have hn : ∃ m, natOf (natText l) = some m := by
    unfold natOf
    rw [if_neg]
    · exact ⟨_, rfl⟩
    · rintro (h | ⟨h5, h6⟩ | h)
      · exact h3 h
      · cases l with
        | nil => have : natText [] = dec 0 := rfl
                 rw [this, dec, dif_pos (by omega)] at h5; simp at h5
        | cons x l => exact h4 (by simp) h6
      · rw [h2] at h; cases h
  obtain ⟨m, hm⟩ := hn
  obtain ⟨g1, g2⟩ := natOf_text hm
  rw [hm, natText_inj g1 h g2]

end Go.Proofs.YtcjjmejmpdhikaaGreatDoor
