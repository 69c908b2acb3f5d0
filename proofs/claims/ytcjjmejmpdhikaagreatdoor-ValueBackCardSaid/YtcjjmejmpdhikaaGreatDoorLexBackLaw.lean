/-
  LEXBACK's plain law: the text of trees parses back to trees of their shape.
-/
import Derived.Test.YtcjjmejmpdhikaaGreatDoorLexBackPlain
namespace Go.Proofs.YtcjjmejmpdhikaaGreatDoor
set_option linter.unusedSimpArgs false
set_option linter.unusedVariables false

theorem sgn_not {c : UInt8} (h : sgn c = true) : blk c = false ∧ c ≠ 40 ∧ c ≠ 41 := by
  refine ⟨?_, ?_, ?_⟩
  · cases hb : blk c with
    | false => rfl
    | true =>
      simp only [blk, Bool.or_eq_true, beq_iff_eq] at hb
      rcases hb with rfl | rfl <;> exact absurd h (by decide)
  · rintro rfl; exact absurd h (by decide)
  · rintro rfl; exact absurd h (by decide)

/-- what may follow a tree -/
def EndsQ (p : UInt8 → Bool) (q : List UInt8) : Prop := q.takeWhile p = []

theorem textI_head {o : Nat} {a : Tr} (h : Wf o [a]) : ∃ c r, textI a = c :: r ∧ blk c = false ∧ c ≠ 41 := by
  obtain ⟨x, k, r, p⟩ := a
  rw [Wf] at h
  cases r with
  | true => exact ⟨40, textR true k ++ [41], by rw [textI, if_pos rfl], by decide, by decide⟩
  | false =>
    rw [if_neg (by simp)] at h
    obtain ⟨⟨_, hx, hs⟩, _⟩ := h
    cases x with
    | nil => exact absurd rfl hx
    | cons c x =>
      simp only [List.all_cons, Bool.and_eq_true] at hs
      have := sgn_not hs.1
      exact ⟨c, x, by rw [textI, if_neg (by simp)], this.1, this.2.2⟩

theorem drop_get {s z : List UInt8} {i : Nat} {c : UInt8} (h : s.drop i = c :: z) : s[i]? = some c ∧ i < s.length ∧ s.drop (i + 1) = z := by
  have h1 : s[i]? = some c := by
    have := List.getElem?_drop (xs := s) (i := i) (j := 0)
    rw [h] at this
    simpa using this.symm
  refine ⟨h1, (List.getElem?_eq_some_iff.1 h1).1, ?_⟩
  have : s.drop (i + 1) = (s.drop i).drop 1 := by rw [List.drop_drop]
  rw [this, h]; rfl

theorem drop_add {s a b : List UInt8} {i : Nat} (h : s.drop i = a ++ b) : s.drop (i + a.length) = b := by
  have : s.drop (i + a.length) = (s.drop i).drop a.length := by rw [List.drop_drop]
  rw [this, h, List.drop_left]

theorem back (k : Nat) : ∀ (ts : List Tr), SizeOf.sizeOf ts < k → ∀ (f : Bool) (o : Nat), Wf o ts → ∀ (s q : List UInt8) (i n : Nat), s.drop i = textR f ts ++ q → i ≤ s.length → (q = [] ∨ ∃ r, q = 41 :: r) → 2 * (s.length - i) + 1 ≤ n →
    ∃ us, rowN n s i o = .ok (us, i + (textR f ts).length) ∧ shapeT ts us = true := by
  induction k with
  | zero => intro ts h; omega
  | succ k ih =>
    intro ts hk f o hw s q i n hd hi hq hn
    obtain ⟨n, rfl⟩ : ∃ m, n = m + 1 := ⟨n - 1, by omega⟩
    cases ts with
    | nil =>
      rw [textR] at hd ⊢
      have hs : skipTo blk s i = i := by
        unfold skipTo
        rw [hd]
        rcases hq with rfl | ⟨r, rfl⟩
        · rfl
        · simp [List.takeWhile_cons, blk41]
      refine ⟨[], ?_, by rw [shapeT]⟩
      rw [rowN, hs]
      rcases hq with rfl | ⟨r, rfl⟩
      · have : s[i]? = none := by
          have h0 : s.drop i = [] := hd
          rw [List.drop_eq_nil_iff] at h0
          exact List.getElem?_eq_none h0
        rw [this]; rfl
      · rw [(drop_get hd).1]; rfl
    | cons a l =>
      have hwl : Wf o l := by obtain ⟨x, ks, r, p⟩ := a; rw [Wf] at hw; exact hw.2
      have hwa : Wf o [a] := by
        obtain ⟨x, ks, r, p⟩ := a
        rw [Wf] at hw ⊢
        exact ⟨hw.1, by rw [Wf]; trivial⟩
      have hsl : SizeOf.sizeOf l < k := by simp at hk; omega
      obtain ⟨c, z, hc, hcb, hc41⟩ := textI_head hwa
      rw [textR] at hd ⊢
      -- the blank
      have hsk : skipTo blk s i = i + (if f then [] else [32] : List UInt8).length := by
        unfold skipTo
        rw [hd, hc]
        cases f with
        | true => simp [List.takeWhile_cons, hcb]
        | false => simp [List.takeWhile_cons, hcb, blk32]
      have hd' : s.drop (skipTo blk s i) = textI a ++ (textR false l ++ q) := by
        rw [hsk]
        refine drop_add ?_
        rw [hd]; simp
      have hi' := skipTo_le blk s i hi
      have hge := skipTo_ge blk s i
      have hlen : i + ((if f then [] else [32] : List UInt8) ++ (textI a ++ textR false l)).length = skipTo blk s i + (textI a).length + (textR false l).length := by
        rw [hsk]; simp; omega
      rw [hlen]
      generalize hgi : skipTo blk s i = i' at hsk hd' hi' hge hlen ⊢
      have hg := drop_get (by rw [hd', hc]; rfl)
      have hlt := hg.2.1
      -- the tree
      have htree : ∃ t, treeN n s i' o = .ok (t, i' + (textI a).length) ∧ shapeT [a] [t] = true := by
        obtain ⟨n, rfl⟩ : ∃ m, n = m + 1 := ⟨n - 1, by omega⟩
        obtain ⟨x, ks, r, p⟩ := a
        rw [Wf] at hwa
        rw [treeN]
        cases r with
        | true =>
          rw [if_pos rfl] at hwa
          obtain ⟨⟨rfl, ho, hwk⟩, _⟩ := hwa
          have e1 : textI (.mk [] ks true p) = 40 :: (textR true ks ++ [41]) := by rw [textI, if_pos rfl]
          rw [e1] at hd' ⊢
          have hd2 := drop_get hd'
          rw [if_pos hd2.1, if_pos ho]
          have hd3 : s.drop (i' + 1) = textR true ks ++ 41 :: (textR false l ++ q) := by rw [hd2.2.2]; simp
          have hsk2 : SizeOf.sizeOf ks < k := by simp at hk; omega
          obtain ⟨us, hu, hsh⟩ := ih ks hsk2 true (o + 1) hwk s _ (i' + 1) n hd3 (by omega) (.inr ⟨_, rfl⟩) (by omega)
          rw [hu]
          have hd4 := drop_get (drop_add hd3)
          refine ⟨.mk [] us true i', ?_, by simp [shapeT, hsh]⟩
          simp only [hd4.2.1, if_true]
          congr 2
          simp; omega
        | false =>
          rw [if_neg (by simp)] at hwa
          obtain ⟨⟨rfl, hx, hs⟩, _⟩ := hwa
          have e1 : textI (.mk x [] false p) = x := by rw [textI, if_neg (by simp)]
          rw [e1] at hd' hc ⊢
          have hc40 : c ≠ 40 := by
            rw [hc] at hs
            simp only [List.all_cons, Bool.and_eq_true] at hs
            exact (sgn_not hs.1).2.1
          have htw : (textR false l ++ q).takeWhile sgn = [] := by
            cases l with
            | nil =>
              rw [textR]
              rcases hq with rfl | ⟨r, rfl⟩
              · rfl
              · simp [List.takeWhile_cons, sgn41]
            | cons b l => rw [textR]; simp [List.takeWhile_cons, sgn32]
          have htx : (s.drop i').takeWhile sgn = x := by
            rw [hd', List.takeWhile_append_of_pos (by simpa using hs), htw, List.append_nil]
          have hs2 : skipTo sgn s i' = i' + x.length := by rw [skip_word, htx]
          have hxl : 0 < x.length := List.length_pos_iff.2 hx
          rw [if_neg (by rw [hg.1]; simpa using hc40), hs2, if_neg (by omega), htx]
          exact ⟨_, rfl, by simp [shapeT]⟩
      obtain ⟨t, ht, hst⟩ := htree
      have hxl : 0 < (textI a).length := by rw [hc]; simp
      have hdl := drop_add hd'
      obtain ⟨us, hu, hsh⟩ := ih l hsl false o hwl s q (i' + (textI a).length) n hdl (by
        have : (s.drop i').length = s.length - i' := List.length_drop
        rw [hd'] at this
        simp at this
        omega) hq (by omega)
      refine ⟨t :: us, ?_, ?_⟩
      · rw [rowN, hgi, hg.1]
        simp only [hc41, if_false, ht, hu]
      · obtain ⟨x, ks, r, p⟩ := a
        obtain ⟨y, ms, r2, p2⟩ := t
        simp only [shapeT, Bool.and_true] at hst ⊢
        rw [hst, hsh]; rfl

/-- all that LexBack asks, where the text's trees are told -/
theorem lexBack_law {l : List UInt8} (hl : l.length ≤ 5000) (h : (parseT l).2.2 = 0) :
    (parseT l).2.1 = 0 ∧ (textR true (parseT l).1).length ≤ 2 * l.length ∧ (parseT (textR true (parseT l).1)).2.2 = 0 ∧
    shapeT (parseT l).1 (parseT (textR true (parseT l).1)).1 = true ∧ textR true (parseT (textR true (parseT l).1)).1 = textR true (parseT l).1 ∧
    deepT (parseT l).1 ≤ 400 ∧ deepT (parseT (textR true (parseT l).1)).1 = deepT (parseT l).1 ∧ Pl l (parseT l).1 0 l.length := by
  obtain ⟨h1, j, hj, hjl, h0⟩ := parse_ok h
  generalize (parseT l).1 = ts at *
  have hle := rowN_le _ l 0 0 (Nat.zero_le _) ts j hj
  have hlen := (text_len _ l 0 0 (Nat.zero_le _)).1 ts j hj
  have hlen2 : (textR true ts).length ≤ 2 * l.length := by have := text_first ts; omega
  have hwf := (wf_of _ l 0 0).1 ts j hj
  obtain ⟨us, hu, hsh⟩ := back (SizeOf.sizeOf ts + 1) ts (by omega) true 0 hwf (textR true ts) [] 0 (2 * (textR true ts).length + 2) (by simp) (by omega) (.inl rfl) (by omega)
  have hp : parseT (textR true ts) = (us, 0, 0) := by
    unfold parseT
    rw [if_neg (by omega), hu]
    simp
  rw [hp]
  refine ⟨h0, hlen2, rfl, hsh, (text_shape ts us true hsh).symm, by have := ((deepN _ l 0 0 (by omega)).1 ts j hj).1; omega, (deep_shape ts us hsh).symm, (placed _ l 0 0 (Nat.zero_le _)).1 ts j hj _ (by omega) (by omega)⟩
end Go.Proofs.YtcjjmejmpdhikaaGreatDoor
