/-
  The plain law: a value that a text gives gives that text back.
-/
import Derived.Test.YtcjjmejmpdhikaaGreatDoorEvVText
import Derived.Test.YtcjjmejmpdhikaaGreatDoorLexBackLaw
namespace Go.Proofs.YtcjjmejmpdhikaaGreatDoor
set_option linter.unusedSimpArgs false
set_option linter.unusedVariables false

theorem joinW_flat : ∀ (w : List UInt8) (l : List (List UInt8)), joinW (w :: l) = w ++ l.flatMap (fun v => 32 :: v)
  | w, [] => by simp [joinW]
  | w, v :: l => by rw [joinW, joinW_flat v l]; simp
theorem textR_flat : ∀ (l : List Tr), textR false l = (l.map textI).flatMap (fun v => 32 :: v)
  | [] => by simp [textR]
  | t :: l => by rw [textR, textR_flat l]; simp
theorem textR_true (t : Tr) (l : List Tr) : textR true (t :: l) = joinW (textI t :: l.map textI) := by rw [textR, textR_flat, joinW_flat]; simp

theorem natText_ge2 {s : List UInt8} {b : Bool} {d : List Nat} (h : numOf s = some (b, d)) : d.length ≤ s.length := by
  obtain ⟨h1, h2⟩ := numOf_right h
  have := natText_ge d h1.1.1
  rw [← h2]
  unfold numText
  split
  · simp only [List.length_cons]; omega
  · exact this

theorem wordV_law {w : List UInt8} (hw : w.length ≤ 900000) (h : (wordV w).2 = true) : valText (wordV w).1 = w ∧ rightV (wordV w).1 ∧ smallV (wordV w).1 := by
  unfold wordV at h ⊢
  split
  · rename_i b d hn
    have hd := natText_ge2 hn
    obtain ⟨h1, h2⟩ := numOf_right hn
    refine ⟨?_, ?_, ?_⟩
    · rw [valText, if_pos rfl, h2]
    · rw [rightV]; exact ⟨by omega, fun _ => h1, trivial⟩
    · rw [smallV]; exact ⟨by omega, by simp, trivial⟩
  · rename_i hn
    rw [hn] at h
    dsimp only at h
    split
    · rename_i hb
      refine ⟨?_, ?_, ?_⟩
      · rw [valText, if_neg (by omega), if_pos rfl]
        unfold boolB
        rcases hb with rfl | rfl
        · rfl
        · rfl
      · rw [rightV]; exact ⟨by simp, fun h => by omega, trivial⟩
      · rw [smallV]; exact ⟨by simp, by simp, trivial⟩
    · rename_i hb
      rw [if_neg hb] at h
      cases h

theorem textI_row (x : List UInt8) (k : List Tr) (a : Int) : textI (.mk x k true a) = 40 :: (textR true k ++ [41]) := by rw [textI]; rfl
theorem textI_word (x : List UInt8) (k : List Tr) (a : Int) : textI (.mk x k false a) = x := by rw [textI]; rfl

theorem Wf_mem : ∀ {l : List Tr} {o : Nat} {t : Tr}, Wf o l → t ∈ l → Wf o [t]
  | .mk x k r a :: l, o, t, h, hm => by
    rw [Wf] at h
    rcases List.mem_cons.1 hm with rfl | hm
    · rw [Wf]; exact ⟨h.1, by rw [Wf]; trivial⟩
    · exact Wf_mem h.2 hm
theorem Wf_tail {t : Tr} {l : List Tr} {o : Nat} (h : Wf o (t :: l)) : Wf o l := by
  obtain ⟨x, k, r, a⟩ := t
  rw [Wf] at h; exact h.2
theorem mem_flat {l : List Tr} {t : Tr} (h : t ∈ l) : (textI t).length ≤ (textR false l).length := by
  induction l with
  | nil => cases h
  | cons a l ih =>
    rw [textR]
    rcases List.mem_cons.1 h with rfl | h
    · simp; omega
    · have := ih h; simp; omega
theorem len_flat (l : List Tr) : l.length ≤ (textR false l).length := by
  induction l with
  | nil => simp
  | cons a l ih => rw [textR]; simp; omega
theorem true_flat (l : List Tr) : (textR false l).length ≤ (textR true l).length + 1 := by
  cases l with
  | nil => simp [textR]
  | cons a l => simp [textR]

/-- what a tree comes to, is not beyond all, and its value's text is its text -/
theorem valT_law (ds : List Data) (N : Nat) : ∀ (t : Tr) (o : Nat), SizeOf.sizeOf t < N → Wf o [t] → (textI t).length ≤ 900000 →
    smallN t ∧ ((valT ds t).2 = true → valText (valT ds t).1 = textI t ∧ rightV (valT ds t).1 ∧ smallV (valT ds t).1) := by
  induction N with
  | zero => intro t o h; omega
  | succ N ih =>
    intro t o hN hwf htl
    obtain ⟨w, kids, row, a⟩ := t
    rw [Wf] at hwf
    have hwf := hwf.1
    cases row with
    | false =>
      rw [if_neg (by simp)] at hwf
      obtain ⟨rfl, hw, hs⟩ := hwf
      rw [textI_word] at htl ⊢
      refine ⟨by rw [smallN]; exact ⟨by omega, by simp, trivial⟩, ?_⟩
      intro h
      rw [valT_eq, if_pos rfl] at h ⊢
      exact wordV_law htl h
    | true =>
      rw [if_pos rfl] at hwf
      obtain ⟨rfl, ho, hk⟩ := hwf
      rw [textI_row] at htl ⊢
      have hf := true_flat kids
      have hfl := len_flat kids
      have hrl : (textR true kids).length + 2 ≤ 900000 := by simp at htl; omega
      have hall : ∀ t ∈ kids, smallN t ∧ ((valT ds t).2 = true → valText (valT ds t).1 = textI t ∧ rightV (valT ds t).1 ∧ smallV (valT ds t).1) := by
        intro t ht
        refine ih t (o + 1) (by have := List.sizeOf_lt_of_mem ht; simp at hN; omega) (Wf_mem hk ht) ?_
        have := mem_flat ht
        omega
      have hsk : ∀ l : List Tr, (∀ t ∈ l, smallN t) → smallNs l := by
        intro l
        induction l with
        | nil => intro _; trivial
        | cons t l ih => intro h; rw [smallNs]; exact ⟨h t (by simp), ih fun t ht => h t (by simp [ht])⟩
      refine ⟨by rw [smallN]; exact ⟨by simp, by omega, hsk kids fun t ht => (hall t ht).1⟩, ?_⟩
      intro h
      rw [valT_eq, if_neg (by simp)] at h ⊢
      cases kids with
      | nil =>
        dsimp only
        refine ⟨?_, ?_, ?_⟩
        · rw [valText, if_neg (by omega), if_neg (by omega), if_pos rfl, if_pos rfl]; simp [textR]
        · rw [rightV]; exact ⟨by simp, fun h => by omega, trivial⟩
        · rw [smallV]; exact ⟨by simp, by simp, trivial⟩
      | cons k0 ks =>
        dsimp only at h ⊢
        have hval : ∀ (l : List Tr) (fs : List Vl), (∀ t ∈ l, t ∈ k0 :: ks) → valTs ds l = some fs → valTexts fs = l.map textI ∧ rightVs fs ∧ smallVs fs ∧ fs.length = l.length := by
          intro l
          induction l with
          | nil => intro fs _ h; rw [valTs] at h; cases h; exact ⟨rfl, trivial, trivial, rfl⟩
          | cons t l ih =>
            intro fs hm h
            have ht := (hall t (hm t (by simp))).2
            rw [valTs] at h
            generalize valT ds t = q at *
            obtain ⟨v, b⟩ := q
            cases b with
            | false => cases h
            | true =>
              dsimp only at h ht
              obtain ⟨g1, g2, g3⟩ := ht rfl
              cases hl : valTs ds l with
              | none => rw [hl] at h; cases h
              | some gs =>
                rw [hl] at h
                cases h
                obtain ⟨h1, h2, h3, h4⟩ := ih gs (fun t ht => hm t (by simp [ht])) hl
                exact ⟨by rw [valTexts, h1, g1]; rfl, by rw [rightVs]; exact ⟨g2, h2⟩, by rw [smallVs]; exact ⟨g3, h3⟩, by simp [h4]⟩
        by_cases hc : (k0.row || !conB ds k0.word) = true
        · rw [if_pos hc] at h; cases h
        · rw [if_neg hc] at h ⊢
          cases hv : valTs ds ks with
          | none => rw [hv] at h; cases h
          | some fs =>
            dsimp only
            obtain ⟨g1, g2, g3, g4⟩ := hval ks fs (fun t ht => by simp [ht]) hv
            obtain ⟨x0, kk0, r0, a0⟩ := k0
            have hr0 : r0 = false := by cases r0 with
              | false => rfl
              | true => exact absurd rfl hc
            subst hr0
            rw [Wf] at hk
            have hk0 := hk.1
            rw [if_neg (by simp)] at hk0
            have hx0 : x0 ≠ [] := hk0.2.1
            simp only [Tr.word]
            refine ⟨?_, ?_, ?_⟩
            · rw [valText, if_neg (by omega), if_neg (by omega), if_pos rfl, if_neg hx0, textR_true, textI_word, g1]; simp
            · rw [rightV]; exact ⟨by simp, fun h => by omega, g2⟩
            · rw [smallV]; exact ⟨by simp, by simp at hfl; omega, g3⟩

/-- the value asks not where the trees stand -/
theorem valT_shape (ds : List Data) (N : Nat) : (∀ (a b : Tr), SizeOf.sizeOf a < N → shapeT [a] [b] = true → valT ds a = valT ds b) ∧ (∀ (l m : List Tr), SizeOf.sizeOf l < N → shapeT l m = true → valTs ds l = valTs ds m) := by
  induction N with
  | zero => exact ⟨fun a b h => by omega, fun l m h => by omega⟩
  | succ N ih =>
    constructor
    · intro a b hN h
      obtain ⟨x, k, r, p⟩ := a
      obtain ⟨y, m, r2, p2⟩ := b
      simp only [shapeT, Bool.and_true, Bool.and_eq_true, beq_iff_eq] at h
      obtain ⟨⟨rfl, rfl⟩, hk⟩ := h
      rw [valT_eq, valT_eq]
      split
      · rfl
      · cases k with
        | nil =>
          cases m with
          | nil => rfl
          | cons b m => simp [shapeT] at hk
        | cons a k =>
          cases m with
          | nil => obtain ⟨_, _, _, _⟩ := a; simp [shapeT] at hk
          | cons b m =>
            obtain ⟨x1, k1, r1, p1⟩ := a
            obtain ⟨y1, m1, s1, q1⟩ := b
            simp only [shapeT, Bool.and_eq_true, beq_iff_eq] at hk
            obtain ⟨⟨⟨rfl, rfl⟩, _⟩, hk⟩ := hk
            dsimp only
            rw [ih.2 k m (by simp at hN; omega) hk]
            rfl
    · intro l m hN h
      cases l with
      | nil =>
        cases m with
        | nil => rfl
        | cons b m => simp [shapeT] at h
      | cons a l =>
        cases m with
        | nil => obtain ⟨_, _, _, _⟩ := a; simp [shapeT] at h
        | cons b m =>
          have h1 : shapeT [a] [b] = true ∧ shapeT l m = true := by
            obtain ⟨x1, k1, r1, p1⟩ := a
            obtain ⟨y1, m1, s1, q1⟩ := b
            simp only [shapeT, Bool.and_true, Bool.and_eq_true, beq_iff_eq] at h ⊢
            exact ⟨h.1, h.2⟩
          rw [valTs, valTs, ih.1 a b (by simp at hN; omega) h1.1, ih.2 l m (by simp at hN; omega) h1.2]

/-- the value of a text, at a sort; is there one? -/
def parseV (ds : List Data) (sort s : List UInt8) : Vl × Bool :=
  if (parseT s).2.2 = 0 then match (parseT s).1 with
    | [t] => if (valT ds t).2 && ofV ds sort (valT ds t).1 then ((valT ds t).1, true) else (zeroV, false)
    | _ => (zeroV, false)
  else (zeroV, false)

theorem parse_small {s : List UInt8} (h : (parseT s).2.2 = 0) {t : Tr} (ht : (parseT s).1 = [t]) : Wf 0 [t] ∧ (textI t).length ≤ 2 * s.length ∧ s.length ≤ 262144 := by
  obtain ⟨h1, j, hj, hjl, h0⟩ := parse_ok h
  have hwf := (wf_of _ s 0 0).1 _ j hj
  have hle := rowN_le _ s 0 0 (Nat.zero_le _) _ j hj
  have hlen := (text_len _ s 0 0 (Nat.zero_le _)).1 _ j hj
  have hl := text_first (parseT s).1
  rw [ht] at hwf hl hlen
  refine ⟨hwf, ?_, h1⟩
  have htt : textR true [t] = textI t := by simp [textR]
  rw [htt] at hl
  omega

theorem parseV_ok {ds : List Data} {sort s : List UInt8} (h : (parseV ds sort s).2 = true) : ∃ t, (parseT s).2.2 = 0 ∧ (parseT s).1 = [t] ∧ (valT ds t).2 = true ∧ ofV ds sort (valT ds t).1 = true ∧ parseV ds sort s = ((valT ds t).1, true) := by
  unfold parseV at h ⊢
  by_cases he : (parseT s).2.2 = 0
  · rw [if_pos he] at h
    split at h
    · rename_i t ht
      by_cases hc : ((valT ds t).2 && ofV ds sort (valT ds t).1) = true
      · have hc2 := hc
        simp only [Bool.and_eq_true] at hc2
        refine ⟨t, he, ht, hc2.1, hc2.2, ?_⟩
        rw [if_pos he, if_pos hc]
      · rw [if_neg hc] at h; cases h
    · cases h
  · rw [if_neg he] at h; cases h
theorem parseV_of {ds : List Data} {sort s : List UInt8} {t : Tr} (h0 : (parseT s).2.2 = 0) (h1 : (parseT s).1 = [t]) (h2 : (valT ds t).2 = true) (h3 : ofV ds sort (valT ds t).1 = true) : parseV ds sort s = ((valT ds t).1, true) := by
  unfold parseV
  rw [if_pos h0, h1]
  dsimp only
  rw [h2, h3]
  rfl

theorem parseV_law (ds : List Data) (sort s : List UInt8) (hs : s.length ≤ 5000) (h : (parseV ds sort s).2 = true) :
    (valText (parseV ds sort s).1).length ≤ 2 * s.length ∧ rightV (parseV ds sort s).1 ∧ smallV (parseV ds sort s).1 ∧ ofV ds sort (parseV ds sort s).1 = true ∧
    parseV ds sort (valText (parseV ds sort s).1) = parseV ds sort s := by
  obtain ⟨t, h0, h1, h2, h3, h4⟩ := parseV_ok h
  obtain ⟨hwf, htl, _⟩ := parse_small h0 h1
  obtain ⟨hsn, hvl⟩ := valT_law ds _ t 0 (Nat.lt_succ_self _) hwf (by omega)
  obtain ⟨g1, g2, g3⟩ := hvl h2
  rw [h4]
  dsimp only
  rw [g1]
  obtain ⟨_, _, b3, b4, _⟩ := lexBack_law hs h0
  have htt : textR true [t] = textI t := by simp [textR]
  rw [h1, htt] at b3 b4
  refine ⟨htl, g2, g3, h3, ?_⟩
  have hlen := shapeT_len _ _ b4
  obtain ⟨u, hu⟩ : ∃ u, (parseT (textI t)).1 = [u] := by
    generalize (parseT (textI t)).1 = us at *
    match us, hlen with
    | [u], _ => exact ⟨u, rfl⟩
  rw [hu] at b4
  have hv := (valT_shape ds _).1 t u (Nat.lt_succ_self _) b4
  rw [parseV_of b3 hu (by rw [← hv]; exact h2) (by rw [← hv]; exact h3), hv]

end Go.Proofs.YtcjjmejmpdhikaaGreatDoor
