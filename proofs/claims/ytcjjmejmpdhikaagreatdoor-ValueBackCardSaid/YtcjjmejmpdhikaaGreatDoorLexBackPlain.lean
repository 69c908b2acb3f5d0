/-
  LEXBACK's plain laws: where the trees lie; what the text of trees parses back to.
-/
import Derived.Test.YtcjjmejmpdhikaaGreatDoorLexPlain
import Derived.Test.YtcjjmejmpdhikaaGreatDoorLexPlaces
import Derived.Test.YtcjjmejmpdhikaaGreatDoorLexText
namespace Go.Proofs.YtcjjmejmpdhikaaGreatDoor
set_option linter.unusedSimpArgs false
set_option linter.unusedVariables false

theorem Pl.mono {s : List UInt8} : ∀ {l : List Tr} {f f' t : Nat}, Pl s l f t → f' ≤ f → Pl s l f' t
  | [], _, _, _, _, _ => by rw [Pl]; trivial
  | .mk x k r a :: l, f, f', t, h, hf => by
    rw [Pl] at h ⊢
    obtain ⟨p, h1, h2, h3⟩ := h
    exact ⟨p, h1, by omega, h3⟩

theorem skip_word (l : List UInt8) (i : Nat) : skipTo sgn l i = i + ((l.drop i).takeWhile sgn).length := rfl

theorem stop_ge {s : List UInt8} {l : List Tr} {f t j : Nat} (h : Pl s l f t) (hj : j ≤ f) (ht : j ≤ t) : j ≤ stopT t l := by
  cases l with
  | nil => exact ht
  | cons a l =>
    obtain ⟨x, k, r, a⟩ := a
    rw [Pl] at h
    obtain ⟨p, rfl, h2, _⟩ := h
    simp only [stopT, Int.toNat_natCast]
    omega
theorem stop_le {s : List UInt8} {l : List Tr} {f t : Nat} (h : Pl s l f t) : stopT t l ≤ t := by
  cases l with
  | nil => exact Nat.le_refl _
  | cons a l =>
    obtain ⟨x, k, r, a⟩ := a
    rw [Pl] at h
    obtain ⟨p, rfl, h2, h3, _⟩ := h
    simp only [stopT, Int.toNat_natCast]
    omega

/-- where the trees of a text lie -/
theorem placed (n : Nat) : ∀ (l : List UInt8) (i o : Nat), i ≤ l.length →
    (∀ ts j, rowN n l i o = .ok (ts, j) → ∀ t, j ≤ t → t ≤ l.length → Pl l ts i t) ∧
    (∀ a j, treeN n l i o = .ok (a, j) → ∀ t us, j ≤ t → t ≤ l.length → Pl l us j t → Pl l (a :: us) i t) := by
  induction n with
  | zero =>
    intro l i o hi
    refine ⟨fun ts j h t _ _ => ?_, fun a j h => by simp [treeN] at h⟩
    simp only [rowN, Res.ok.injEq, Prod.mk.injEq] at h
    rw [← h.1, Pl]; trivial
  | succ n ih =>
    intro l i o hi
    constructor
    · intro ts j h t hj ht
      have h1 := skipTo_ge blk l i
      have h2 := skipTo_le blk l i hi
      rw [rowN] at h
      split at h
      · simp only [Res.ok.injEq, Prod.mk.injEq] at h
        rw [← h.1, Pl]; trivial
      · split at h
        · simp only [Res.ok.injEq, Prod.mk.injEq] at h
          rw [← h.1, Pl]; trivial
        · split at h
          · cases h
          · rename_i a k hk
            have h3 := treeN_le n l _ o h2 a k hk
            split at h
            · cases h
            · rename_i us m hm
              have h4 := rowN_le n l k o h3.2 us m hm
              simp only [Res.ok.injEq, Prod.mk.injEq] at h
              obtain ⟨rfl, rfl⟩ := h
              exact ((ih l _ o h2).2 a k hk t us (by omega) ht ((ih l k o h3.2).1 us m hm t hj ht)).mono h1
    · intro a j h t us hj ht hus
      rw [treeN] at h
      split at h
      · rename_i hc
        have hlt : i < l.length := (List.getElem?_eq_some_iff.1 hc).1
        split at h
        · split at h
          · cases h
          · rename_i ts k hk
            have h3 := rowN_le n l (i + 1) (o + 1) (by omega) ts k hk
            split at h
            · simp only [Res.ok.injEq, Prod.mk.injEq] at h
              obtain ⟨rfl, rfl⟩ := h
              rw [Pl]
              refine ⟨i, rfl, Nat.le_refl _, by omega, ?_⟩
              rw [if_pos rfl]
              exact ⟨hc, rfl, stop_le hus, (ih l (i + 1) (o + 1) (by omega)).1 ts k hk _ (stop_ge hus (by omega) (by omega)) (by have := stop_le hus; omega), hus.mono (by omega)⟩
            · cases h
        · cases h
      · split at h
        · cases h
        · rename_i hne
          simp only [Res.ok.injEq, Prod.mk.injEq] at h
          obtain ⟨rfl, rfl⟩ := h
          have hx : ((l.drop i).takeWhile sgn).length ≠ 0 := fun e => hne (by rw [skip_word, e]; rfl)
          rw [skip_word] at hj hus
          rw [Pl]
          refine ⟨i, rfl, Nat.le_refl _, by omega, ?_⟩
          rw [if_neg (by simp)]
          exact ⟨rfl, fun e => hx (by rw [e]; rfl), by omega, takeWhile_take sgn _, hus⟩

/-- trees as a text gives them, o rows being open -/
def Wf : Nat → List Tr → Prop
  | _, [] => True
  | o, .mk x k r _ :: l => (if r then x = [] ∧ o < 400 ∧ Wf (o + 1) k else k = [] ∧ x ≠ [] ∧ x.all sgn = true) ∧ Wf o l

theorem wf_of (n : Nat) : ∀ (l : List UInt8) (i o : Nat),
    (∀ ts j, rowN n l i o = .ok (ts, j) → Wf o ts) ∧ (∀ a j, treeN n l i o = .ok (a, j) → Wf o [a]) := by
  induction n with
  | zero =>
    intro l i o
    refine ⟨fun ts j h => ?_, fun a j h => by simp [treeN] at h⟩
    simp only [rowN, Res.ok.injEq, Prod.mk.injEq] at h
    rw [← h.1, Wf]; trivial
  | succ n ih =>
    intro l i o
    constructor
    · intro ts j h
      rw [rowN] at h
      split at h
      · simp only [Res.ok.injEq, Prod.mk.injEq] at h
        rw [← h.1, Wf]; trivial
      · split at h
        · simp only [Res.ok.injEq, Prod.mk.injEq] at h
          rw [← h.1, Wf]; trivial
        · split at h
          · cases h
          · rename_i a k hk
            split at h
            · cases h
            · rename_i us m hm
              simp only [Res.ok.injEq, Prod.mk.injEq] at h
              obtain ⟨rfl, rfl⟩ := h
              have h1 := (ih l (skipTo blk l i) o).2 a k hk
              have h2 := (ih l k o).1 us m hm
              obtain ⟨x, ks, r, p⟩ := a
              rw [Wf] at h1 ⊢
              exact ⟨h1.1, h2⟩
    · intro a j h
      rw [treeN] at h
      split at h
      · split at h
        · rename_i ho
          split at h
          · cases h
          · rename_i ts k hk
            split at h
            · simp only [Res.ok.injEq, Prod.mk.injEq] at h
              obtain ⟨rfl, rfl⟩ := h
              rw [Wf, if_pos rfl]
              exact ⟨⟨rfl, ho, (ih l (i + 1) (o + 1)).1 ts k hk⟩, by rw [Wf]; trivial⟩
            · cases h
        · cases h
      · split at h
        · cases h
        · rename_i hne
          simp only [Res.ok.injEq, Prod.mk.injEq] at h
          obtain ⟨rfl, rfl⟩ := h
          have hx : ((l.drop i).takeWhile sgn).length ≠ 0 := fun e => hne (by rw [skip_word, e]; rfl)
          rw [Wf, if_neg (by simp)]
          exact ⟨⟨rfl, fun e => hx (by rw [e]; rfl), List.all_takeWhile⟩, by rw [Wf]; trivial⟩

/-- how long the text is -/
theorem text_len (n : Nat) : ∀ (l : List UInt8) (i o : Nat), i ≤ l.length →
    (∀ ts j, rowN n l i o = .ok (ts, j) → (textR false ts).length ≤ 2 * (j - i)) ∧ (∀ a j, treeN n l i o = .ok (a, j) → (textI a).length + 1 ≤ 2 * (j - i)) := by
  induction n with
  | zero =>
    intro l i o hi
    refine ⟨fun ts j h => ?_, fun a j h => by simp [treeN] at h⟩
    simp only [rowN, Res.ok.injEq, Prod.mk.injEq] at h
    rw [← h.1, textR]; simp
  | succ n ih =>
    intro l i o hi
    constructor
    · intro ts j h
      have h1 := skipTo_ge blk l i
      have h2 := skipTo_le blk l i hi
      rw [rowN] at h
      split at h
      · simp only [Res.ok.injEq, Prod.mk.injEq] at h
        rw [← h.1, textR]; simp
      · split at h
        · simp only [Res.ok.injEq, Prod.mk.injEq] at h
          rw [← h.1, textR]; simp
        · split at h
          · cases h
          · rename_i a k hk
            have h3 := treeN_le n l _ o h2 a k hk
            split at h
            · cases h
            · rename_i us m hm
              have h4 := rowN_le n l k o h3.2 us m hm
              simp only [Res.ok.injEq, Prod.mk.injEq] at h
              obtain ⟨rfl, rfl⟩ := h
              have g1 := (ih l _ o h2).2 a k hk
              have g2 := (ih l k o h3.2).1 us m hm
              rw [textR]
              simp
              omega
    · intro a j h
      rw [treeN] at h
      split at h
      · rename_i hc
        have hlt : i < l.length := (List.getElem?_eq_some_iff.1 hc).1
        split at h
        · split at h
          · cases h
          · rename_i ts k hk
            have h3 := rowN_le n l (i + 1) (o + 1) (by omega) ts k hk
            have g1 := (ih l (i + 1) (o + 1) (by omega)).1 ts k hk
            split at h
            · simp only [Res.ok.injEq, Prod.mk.injEq] at h
              obtain ⟨rfl, rfl⟩ := h
              rw [textI, if_pos rfl]
              cases ts with
              | nil => simp [textR]; omega
              | cons b ts =>
                rw [textR] at g1 ⊢
                simp at g1 ⊢
                omega
            · cases h
        · cases h
      · split at h
        · cases h
        · rename_i hne
          simp only [Res.ok.injEq, Prod.mk.injEq] at h
          obtain ⟨rfl, rfl⟩ := h
          have hx : ((l.drop i).takeWhile sgn).length ≠ 0 := fun e => hne (by rw [skip_word, e]; rfl)
          rw [textI, if_neg (by simp), skip_word]
          omega

theorem text_first (ts : List Tr) : (textR true ts).length ≤ (textR false ts).length := by
  cases ts with
  | nil => simp [textR]
  | cons a l => simp [textR]

/-- the text, and the depth, are of the shape alone -/
theorem text_shape : ∀ (a b : List Tr) (f : Bool), shapeT a b = true → textR f a = textR f b
  | [], [], _, _ => rfl
  | .mk x k r _ :: l, .mk y k' r' _ :: m, f, h => by
    simp only [shapeT, Bool.and_eq_true, beq_iff_eq] at h
    obtain ⟨⟨⟨rfl, rfl⟩, h1⟩, h2⟩ := h
    rw [textR, textR, text_shape l m false h2, textI, textI, text_shape k k' true h1]
  | [], _ :: _, _, h => by simp [shapeT] at h
  | _ :: _, [], _, h => by simp [shapeT] at h

theorem deep_shape : ∀ (a b : List Tr), shapeT a b = true → deepT a = deepT b
  | [], [], _ => rfl
  | .mk x k r _ :: l, .mk y k' r' _ :: m, h => by
    simp only [shapeT, Bool.and_eq_true, beq_iff_eq] at h
    obtain ⟨⟨⟨rfl, rfl⟩, h1⟩, h2⟩ := h
    rw [deepT, deepT, deep_shape l m h2, deep_shape k k' h1]
  | [], _ :: _, h => by simp [shapeT] at h
  | _ :: _, [], h => by simp [shapeT] at h
end Go.Proofs.YtcjjmejmpdhikaaGreatDoor
