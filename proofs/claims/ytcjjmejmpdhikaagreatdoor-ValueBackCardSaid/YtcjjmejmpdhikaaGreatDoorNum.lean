/-
  Numbers as rows of digits below 10^9, and their texts: plain law.
-/
import Derived.KernelRfl
namespace Go.Proofs.YtcjjmejmpdhikaaGreatDoor
set_option linter.unusedSimpArgs false
set_option linter.unusedVariables false

theorem snocInd {α : Type} {motive : List α → Prop} (nil : motive []) (append_singleton : ∀ l a, motive l → motive (l ++ [a])) (l : List α) : motive l := by
  rw [← List.reverse_reverse l]
  induction l.reverse with
  | nil => exact nil
  | cons a l ih => rw [List.reverse_cons]; exact append_singleton _ _ ih

def B9 : Nat := 1000000000

/-- without the zeros at the end -/
def drop0 : List Nat → List Nat
  | [] => []
  | x :: l => match drop0 l with
    | [] => if x = 0 then [] else [x]
    | r => x :: r
/-- what is left over, as digits -/
def spill (c : Nat) : List Nat := if h : c = 0 then [] else c % B9 :: spill (c / B9)
termination_by c
decreasing_by exact Nat.div_lt_self (by omega) (by decide)
def carry : List Nat → Nat → List Nat
  | [], c => spill c
  | x :: l, c => (x + c) % B9 :: carry l ((x + c) / B9)
def normD (l : List Nat) : List Nat := drop0 (carry l 0)

def RightD (l : List Nat) : Prop := (∀ x ∈ l, x < B9) ∧ drop0 l = l

theorem carry_id : ∀ {l : List Nat}, (∀ x ∈ l, x < B9) → carry l 0 = l
  | [], _ => by unfold carry spill; simp
  | x :: l, h => by
    have hx : x < B9 := h x (by simp)
    unfold carry
    rw [Nat.add_zero, Nat.mod_eq_of_lt hx, Nat.div_eq_of_lt hx, carry_id (fun y hy => h y (by simp [hy]))]
theorem normD_right {l : List Nat} (h : RightD l) : normD l = l := by
  unfold normD
  rw [carry_id h.1, h.2]
theorem drop0_cons (x : Nat) (l : List Nat) : drop0 (x :: l) = if drop0 l = [] then (if x = 0 then [] else [x]) else x :: drop0 l := by
  rw [drop0]
  split
  · rename_i h; rw [if_pos h]
  · rename_i h; rw [if_neg h]
theorem drop0_drop0 : ∀ (l : List Nat), drop0 (drop0 l) = drop0 l
  | [] => rfl
  | x :: l => by
    have ih := drop0_drop0 l
    rw [drop0_cons x l]
    split
    · split
      · rfl
      · rename_i hx; rw [drop0_cons]; simp [drop0, hx]
    · rename_i h; rw [drop0_cons, ih, if_neg h]
theorem drop0_sub : ∀ {l : List Nat} {x : Nat}, x ∈ drop0 l → x ∈ l
  | [], x, h => by simp [drop0] at h
  | y :: l, x, h => by
    unfold drop0 at h
    split at h
    · split at h <;> simp_all
    · rename_i e
      rcases List.mem_cons.1 h with rfl | h
      · simp
      · exact List.mem_cons_of_mem _ (drop0_sub h)
theorem spill_lt (c : Nat) : ∀ x ∈ spill c, x < B9 := by
  induction c using Nat.strongRecOn with
  | ind c ih =>
    intro x hx
    unfold spill at hx
    split at hx
    · simp at hx
    · rename_i h
      rcases List.mem_cons.1 hx with rfl | hx
      · exact Nat.mod_lt _ (by decide)
      · exact ih _ (Nat.div_lt_self (by omega) (by decide)) x hx
theorem carry_lt : ∀ (l : List Nat) (c : Nat), ∀ x ∈ carry l c, x < B9
  | [], c, x, h => spill_lt c x h
  | y :: l, c, x, h => by
    unfold carry at h
    rcases List.mem_cons.1 h with rfl | h
    · exact Nat.mod_lt _ (by decide)
    · exact carry_lt l _ x h
theorem normD_ok (l : List Nat) : RightD (normD l) := ⟨fun x hx => carry_lt l 0 x (drop0_sub hx), drop0_drop0 _⟩

/-- decimal, the highest sign first -/
def dec (n : Nat) : List UInt8 := if h : n < 10 then [UInt8.ofNat (48 + n)] else dec (n / 10) ++ [UInt8.ofNat (48 + n % 10)]
termination_by n
decreasing_by omega
def padN (k n : Nat) : List UInt8 := List.replicate (k - (dec n).length) 48 ++ dec n
/-- the digits, the highest first, behind the first one -/
def natText (l : List Nat) : List UInt8 :=
  match l.reverse with
  | [] => dec 0
  | t :: r => dec t ++ r.flatMap (padN 9)

def isDec (s : List UInt8) : Bool := s.all fun b => 48 ≤ b.toNat && b.toNat ≤ 57
def valD (s : List UInt8) : Nat := s.foldl (fun a b => a * 10 + (b.toNat - 48)) 0
def chunksE (s : List UInt8) : List Nat := if h : s = [] then [] else valD (s.drop (s.length - 9)) :: chunksE (s.take (s.length - 9))
termination_by s.length
decreasing_by
  have : 0 < s.length := List.length_pos_iff.2 h
  simp; omega
def natOf (s : List UInt8) : Option (List Nat) :=
  if s = [] ∨ (s.length > 1 ∧ s.head? = some 48) ∨ isDec s = false then none else some (normD (chunksE s))

theorem valD_append (s : List UInt8) (b : UInt8) : valD (s ++ [b]) = valD s * 10 + (b.toNat - 48) := by unfold valD; simp
theorem valD_lt : ∀ (s : List UInt8), isDec s = true → valD s < 10 ^ s.length := by
  intro s
  induction s using snocInd with
  | nil => intro; simp [valD]
  | append_singleton s b ih =>
    intro h
    simp only [isDec, List.all_append, Bool.and_eq_true, List.all_cons, List.all_nil, decide_eq_true_eq, Bool.and_true] at h
    have := ih h.1
    rw [valD_append, List.length_append, List.length_singleton, Nat.pow_succ]
    have hb := h.2.2
    omega
theorem valD_pos : ∀ (s : List UInt8) (b : UInt8), isDec (b :: s) = true → b ≠ 48 → 1 ≤ valD (b :: s) := by
  intro s
  induction s using snocInd with
  | nil =>
    intro b h hb
    simp only [isDec, List.all_cons, List.all_nil, Bool.and_true, Bool.and_eq_true, decide_eq_true_eq] at h
    have : b.toNat ≠ 48 := fun e => hb (UInt8.toNat_inj.1 e)
    simp [valD]; omega
  | append_singleton s c ih =>
    intro b h hb
    rw [← List.cons_append] at h ⊢
    simp only [isDec, List.all_append, Bool.and_eq_true] at h
    have := ih b h.1 hb
    rw [valD_append]; omega

theorem ofNat_dig (b : UInt8) (h : 48 ≤ b.toNat) : UInt8.ofNat (48 + (b.toNat - 48)) = b := by
  rw [show 48 + (b.toNat - 48) = b.toNat by omega]
  exact UInt8.ofNat_toNat
theorem dec_valD : ∀ (s : List UInt8) (b : UInt8), isDec (b :: s) = true → (b ≠ 48 ∨ s = []) → dec (valD (b :: s)) = b :: s := by
  intro s
  induction s using snocInd with
  | nil =>
    intro b h _
    simp only [isDec, List.all_cons, List.all_nil, Bool.and_true, Bool.and_eq_true, decide_eq_true_eq] at h
    unfold dec
    have e : valD [b] = b.toNat - 48 := by simp [valD]
    rw [e, dif_pos (by omega), ofNat_dig b h.1]
  | append_singleton s c ih =>
    intro b h hb
    rw [← List.cons_append] at h ⊢
    simp only [isDec, List.all_append, Bool.and_eq_true, List.all_cons, List.all_nil, decide_eq_true_eq, Bool.and_true] at h
    have hb : b ≠ 48 := hb.resolve_right (by simp)
    have hp := valD_pos s b (by simpa [isDec] using h.1) hb
    have ih := ih b (by simpa [isDec] using h.1) (.inl hb)
    rw [valD_append]
    unfold dec
    rw [dif_neg (by omega), show (valD (b :: s) * 10 + (c.toNat - 48)) / 10 = valD (b :: s) by omega, show (valD (b :: s) * 10 + (c.toNat - 48)) % 10 = c.toNat - 48 by omega, ih, ofNat_dig c h.2.1]
theorem valD_zero (s : List UInt8) : valD (48 :: s) = valD s := by simp [valD]
theorem padN_valD : ∀ (s : List UInt8), s ≠ [] → isDec s = true → (dec (valD s)).length ≤ s.length ∧ padN s.length (valD s) = s
  | [], h, _ => absurd rfl h
  | b :: s, _, h => by
    by_cases hb : b = 48 ∧ s ≠ []
    · obtain ⟨rfl, hs⟩ := hb
      have h2 : isDec s = true := by simp only [isDec, List.all_cons, Bool.and_eq_true] at h; exact h.2
      obtain ⟨h3, h4⟩ := padN_valD s hs h2
      rw [valD_zero]
      refine ⟨by simp; omega, ?_⟩
      unfold padN at h4 ⊢
      rw [show (48 :: s).length - (dec (valD s)).length = (s.length - (dec (valD s)).length) + 1 by simp; omega, List.replicate_succ, List.cons_append, h4]
    · have := dec_valD s b h (by
        by_cases e : b = 48
        · exact .inr (by simpa [e] using hb)
        · exact .inl e)
      unfold padN
      rw [this]
      simp

theorem chunksE_lt : ∀ (s : List UInt8), isDec s = true → ∀ x ∈ chunksE s, x < B9 := by
  intro s
  generalize hn : s.length = n
  induction n using Nat.strongRecOn generalizing s with
  | ind n ih =>
    intro h x hx
    unfold chunksE at hx
    split at hx
    · simp at hx
    · rename_i hs
      have hl : 0 < s.length := List.length_pos_iff.2 hs
      rcases List.mem_cons.1 hx with rfl | hx
      · have h2 : isDec (s.drop (s.length - 9)) = true := by
          simp only [isDec, List.all_eq_true] at h ⊢
          exact fun y hy => h y (List.mem_of_mem_drop hy)
        have := valD_lt _ h2
        have h3 : (s.drop (s.length - 9)).length ≤ 9 := by simp; omega
        exact Nat.lt_of_lt_of_le this (Nat.le_trans (Nat.pow_le_pow_right (by omega) h3) (by decide))
      · refine ih (s.length - 9) (by omega) (s.take (s.length - 9)) (by simp) ?_ x hx
        simp only [isDec, List.all_eq_true] at h ⊢
        exact fun y hy => h y (List.mem_of_mem_take hy)

theorem drop0_ne {l : List Nat} {x : Nat} (h : l ≠ []) (h2 : drop0 l = l) : drop0 (x :: l) = x :: l := by
  unfold drop0
  rw [h2]
  split
  · rename_i e; exact absurd rfl h
  · rfl
theorem natText_cons {x : Nat} {l : List Nat} (h : l ≠ []) : natText (x :: l) = natText l ++ padN 9 x := by
  unfold natText
  rw [List.reverse_cons]
  cases e : l.reverse with
  | nil => exact absurd (List.reverse_eq_nil_iff.1 e) h
  | cons t r => simp

/-- a text without a zero ahead, as digits, and back -/
theorem chunks_text : ∀ (s : List UInt8) (b : UInt8), isDec (b :: s) = true → b ≠ 48 → chunksE (b :: s) ≠ [] ∧ drop0 (chunksE (b :: s)) = chunksE (b :: s) ∧ natText (chunksE (b :: s)) = b :: s := by
  intro s
  generalize hn : s.length = n
  induction n using Nat.strongRecOn generalizing s with
  | ind n ih =>
    intro b h hb
    rw [chunksE, dif_neg (by simp)]
    refine ⟨by simp, ?_⟩
    by_cases hl : s.length + 1 ≤ 9
    · rw [show (b :: s).length - 9 = 0 by simp; omega, List.drop_zero, List.take_zero, chunksE, dif_pos rfl]
      have hp := valD_pos s b h hb
      refine ⟨by simp [drop0]; omega, ?_⟩
      simp only [natText, List.reverse_singleton, List.flatMap_nil, List.append_nil]
      exact dec_valD s b h (.inl hb)
    · obtain ⟨m, hm⟩ : ∃ m, (b :: s).length - 9 = m + 1 := ⟨s.length - 9, by simp; omega⟩
      have hm2 : m + 9 = s.length := by simp at hm; omega
      rw [hm, List.take_succ_cons, List.drop_succ_cons]
      simp only [isDec, List.all_cons, Bool.and_eq_true] at h
      have hs : isDec s = true := h.2
      obtain ⟨h1, h2, h3⟩ := ih m (by omega) (s.take m) (by simp; omega) b (by
        simp only [isDec, List.all_cons, Bool.and_eq_true]
        exact ⟨h.1, by simp only [isDec, List.all_eq_true] at hs ⊢; exact fun y hy => hs y (List.mem_of_mem_take hy)⟩) hb
      refine ⟨drop0_ne h1 h2, ?_⟩
      rw [natText_cons h1, h3]
      have hd : isDec (s.drop m) = true := by simp only [isDec, List.all_eq_true] at hs ⊢; exact fun y hy => hs y (List.mem_of_mem_drop hy)
      have hdl : (s.drop m).length = 9 := by simp; omega
      have := (padN_valD (s.drop m) (fun e => by rw [e] at hdl; simp at hdl) hd).2
      rw [hdl] at this
      rw [this, List.cons_append, List.take_append_drop]

theorem natOf_text {s : List UInt8} {l : List Nat} (h : natOf s = some l) : RightD l ∧ natText l = s := by
  unfold natOf at h
  split at h
  · cases h
  · rename_i hc
    simp only [not_or, not_and, Bool.not_eq_false] at hc
    obtain ⟨h1, h2, h3⟩ := hc
    cases h
    refine ⟨normD_ok _, ?_⟩
    cases s with
    | nil => exact absurd rfl h1
    | cons b s =>
      unfold normD
      rw [carry_id (chunksE_lt _ h3)]
      by_cases hb : b = 48
      · subst hb
        have : s = [] := by
          cases s with
          | nil => rfl
          | cons c s => exact absurd rfl (h2 (by simp))
        subst this
        have e : chunksE [48] = [0] := by rw [chunksE, dif_neg (by simp)]; simp [valD, chunksE]
        rw [e]
        simp [drop0, natText, dec]
      · obtain ⟨_, g2, g3⟩ := chunks_text s b h3 hb
        rw [g2, g3]

end Go.Proofs.YtcjjmejmpdhikaaGreatDoor
