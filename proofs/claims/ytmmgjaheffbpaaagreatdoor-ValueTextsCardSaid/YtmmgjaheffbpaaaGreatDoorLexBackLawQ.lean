/-
 LEXBACK's plain law: the text of trees parses back to trees of their shape.
-/
import Derived.Test.YtmmgjaheffbpaaaGreatDoorLexPlainQ
import Derived.Test.YtmmgjaheffbpaaaGreatDoorEvJoinQ
namespace Go.Proofs.YtmmgjaheffbpaaaGreatDoor
set_option maxRecDepth 100000
set_option maxHeartbeats 8000000
set_option linter.unusedSimpArgs false
set_option linter.unusedVariables false
set_option linter.unusedSectionVars false
section
theorem sgn_not {c : UInt8} (h : sgn c = true) : blk c = false ∧ c ≠ 40 ∧ c ≠ 41 := by
 refine ⟨?_, ?_, ?_⟩
 · cases hb : blk c with
   | false => rfl
   | true =>
    simp only [blk, Bool.or_eq_true, beq_iff_eq] at hb
    rcases hb with rfl | rfl <;> exact absurd h (by decide)
 · rintro rfl; exact absurd h (by decide)
 · rintro rfl; exact absurd h (by decide)
def EndsQ (p : UInt8 → Bool) (q : List UInt8) : Prop := q.takeWhile p = []
theorem textI_head {o : Nat} {a : Tr} (h : Wf o [a]) : ∃ c r, textI a = c :: r ∧ blk c = false ∧ c ≠ 41 := by
 obtain ⟨x, k, r, p⟩ := a
 rw [Wf] at h
 cases r with
 | true => exact ⟨40, textR true k ++ [41], by rw [textI, if_pos rfl], by decide, by decide⟩
 | false =>
  rw [if_neg (by simp)] at h
  obtain ⟨⟨_, hx, hs⟩, _⟩ := h
  cases x with
  | nil => exact absurd rfl hx
  | cons c x =>
   simp only [List.all_cons, Bool.and_eq_true] at hs
   have := sgn_not hs.1
   exact ⟨c, x, by rw [textI, if_neg (by simp)], this.1, this.2.2⟩
theorem drop_get {s z : List UInt8} {i : Nat} {c : UInt8} (h : s.drop i = c :: z) : s[i]? = some c ∧ i < s.length ∧ s.drop (i + 1) = z := by
 have h1 : s[i]? = some c := by
  have := List.getElem?_drop (xs := s) (i := i) (j := 0)
  rw [h] at this
  simpa using this.symm
 refine ⟨h1, (List.getElem?_eq_some_iff.1 h1).1, ?_⟩
 have : s.drop (i + 1) = (s.drop i).drop 1 := by rw [List.drop_drop]
 rw [this, h]; rfl
theorem drop_add {s a b : List UInt8} {i : Nat} (h : s.drop i = a ++ b) : s.drop (i + a.length) = b := by
 have : s.drop (i + a.length) = (s.drop i).drop a.length := by rw [List.drop_drop]
 rw [this, h, List.drop_left]
theorem back (k : Nat) : ∀ (ts : List Tr), SizeOf.sizeOf ts < k → ∀ (f : Bool) (o : Nat), Wf o ts → ∀ (s q : List UInt8) (i n : Nat), s.drop i = textR f ts ++ q → i ≤ s.length → (q = [] ∨ ∃ r, q = 41 :: r) → 2 * (s.length - i) + 1 ≤ n →
    ∃ us, rowN n s i o = .ok (us, i + (textR f ts).length) ∧ shapeT ts us = true := by
 induction k with
 | zero => intro ts h; omega
 | succ k ih =>
  intro ts hk f o hw s q i n hd hi hq hn
  obtain ⟨n, rfl⟩ : ∃ m, n = m + 1 := ⟨n - 1, by omega⟩
  cases ts with
  | nil =>
   rw [textR] at hd ⊢
   have hs : skipTo blk s i = i := by
    unfold skipTo
    rw [hd]
    rcases hq with rfl | ⟨r, rfl⟩
    · rfl
    · simp [List.takeWhile_cons, blk41]
   refine ⟨[], ?_, by rw [shapeT]⟩
   rw [rowN, hs]
   rcases hq with rfl | ⟨r, rfl⟩
   · have : s[i]? = none := by
      have h0 : s.drop i = [] := hd
      rw [List.drop_eq_nil_iff] at h0
      exact List.getElem?_eq_none h0
     rw [this]; rfl
   · rw [(drop_get hd).1]; rfl
  | cons a l =>
   have hwl : Wf o l := by obtain ⟨x, ks, r, p⟩ := a; rw [Wf] at hw; exact hw.2
   have hwa : Wf o [a] := by
    obtain ⟨x, ks, r, p⟩ := a
    rw [Wf] at hw ⊢
    exact ⟨hw.1, by rw [Wf]; trivial⟩
   have hsl : SizeOf.sizeOf l < k := by simp at hk; omega
   obtain ⟨c, z, hc, hcb, hc41⟩ := textI_head hwa
   rw [textR] at hd ⊢
   -- the blank
   have hsk : skipTo blk s i = i + (if f then [] else [32] : List UInt8).length := by
    unfold skipTo
    rw [hd, hc]
    cases f with
    | true => simp [List.takeWhile_cons, hcb]
    | false => simp [List.takeWhile_cons, hcb, blk32]
   have hd' : s.drop (skipTo blk s i) = textI a ++ (textR false l ++ q) := by
    rw [hsk]
    refine drop_add ?_
    rw [hd]; simp
   have hi' := skipTo_le blk s i hi
   have hge := skipTo_ge blk s i
   have hlen : i + ((if f then [] else [32] : List UInt8) ++ (textI a ++ textR false l)).length = skipTo blk s i + (textI a).length + (textR false l).length := by
    rw [hsk]; simp; omega
   rw [hlen]
   generalize hgi : skipTo blk s i = i' at hsk hd' hi' hge hlen ⊢
   have hg := drop_get (by rw [hd', hc]; rfl)
   have hlt := hg.2.1
   -- the tree
   have htree : ∃ t, treeN n s i' o = .ok (t, i' + (textI a).length) ∧ shapeT [a] [t] = true := by
    obtain ⟨n, rfl⟩ : ∃ m, n = m + 1 := ⟨n - 1, by omega⟩
    obtain ⟨x, ks, r, p⟩ := a
    rw [Wf] at hwa
    rw [treeN]
    cases r with
    | true =>
     rw [if_pos rfl] at hwa
     obtain ⟨⟨rfl, ho, hwk⟩, _⟩ := hwa
     have e1 : textI (.mk [] ks true p) = 40 :: (textR true ks ++ [41]) := by rw [textI, if_pos rfl]
     rw [e1] at hd' ⊢
     have hd2 := drop_get hd'
     rw [if_pos hd2.1, if_pos ho]
     have hd3 : s.drop (i' + 1) = textR true ks ++ 41 :: (textR false l ++ q) := by rw [hd2.2.2]; simp
     have hsk2 : SizeOf.sizeOf ks < k := by simp at hk; omega
     obtain ⟨us, hu, hsh⟩ := ih ks hsk2 true (o + 1) hwk s _ (i' + 1) n hd3 (by omega) (.inr ⟨_, rfl⟩) (by omega)
     rw [hu]
     have hd4 := drop_get (drop_add hd3)
     refine ⟨.mk [] us true i', ?_, by simp [shapeT, hsh]⟩
     simp only [hd4.2.1, if_true]
     congr 2
     simp; omega
    | false =>
     rw [if_neg (by simp)] at hwa
     obtain ⟨⟨rfl, hx, hs⟩, _⟩ := hwa
     have e1 : textI (.mk x [] false p) = x := by rw [textI, if_neg (by simp)]
     rw [e1] at hd' hc ⊢
     have hc40 : c ≠ 40 := by
      rw [hc] at hs
      simp only [List.all_cons, Bool.and_eq_true] at hs
      exact (sgn_not hs.1).2.1
     have htw : (textR false l ++ q).takeWhile sgn = [] := by
      cases l with
      | nil =>
       rw [textR]
       rcases hq with rfl | ⟨r, rfl⟩
       · rfl
       · simp [List.takeWhile_cons, sgn41]
      | cons b l => rw [textR]; simp [List.takeWhile_cons, sgn32]
     have htx : (s.drop i').takeWhile sgn = x := by
      rw [hd', List.takeWhile_append_of_pos (by simpa using hs), htw, List.append_nil]
     have hs2 : skipTo sgn s i' = i' + x.length := by rw [skip_word, htx]
     have hxl : 0 < x.length := List.length_pos_iff.2 hx
     rw [if_neg (by rw [hg.1]; simpa using hc40), hs2, if_neg (by omega), htx]
     exact ⟨_, rfl, by simp [shapeT]⟩
   obtain ⟨t, ht, hst⟩ := htree
   have hxl : 0 < (textI a).length := by rw [hc]; simp
   have hdl := drop_add hd'
   obtain ⟨us, hu, hsh⟩ := ih l hsl false o hwl s q (i' + (textI a).length) n hdl (by
    have : (s.drop i').length = s.length - i' := List.length_drop
    rw [hd'] at this
    simp at this
    omega) hq (by omega)
   refine ⟨t :: us, ?_, ?_⟩
   · rw [rowN, hgi, hg.1]
     simp only [hc41, if_false, ht, hu]
   · obtain ⟨x, ks, r, p⟩ := a
     obtain ⟨y, ms, r2, p2⟩ := t
     simp only [shapeT, Bool.and_true] at hst ⊢
     rw [hst, hsh]; rfl
theorem lexBack_law {l : List UInt8} (hl : l.length ≤ 5000) (h : (parseT l).2.2 = 0) :
    (parseT l).2.1 = 0 ∧ (textR true (parseT l).1).length ≤ 2 * l.length ∧ (parseT (textR true (parseT l).1)).2.2 = 0 ∧
    shapeT (parseT l).1 (parseT (textR true (parseT l).1)).1 = true ∧ textR true (parseT (textR true (parseT l).1)).1 = textR true (parseT l).1 ∧
    deepT (parseT l).1 ≤ 400 ∧ deepT (parseT (textR true (parseT l).1)).1 = deepT (parseT l).1 ∧ Pl l (parseT l).1 0 l.length := by
 obtain ⟨h1, j, hj, hjl, h0⟩ := parse_ok h
 generalize (parseT l).1 = ts at *
 have hle := rowN_le _ l 0 0 (Nat.zero_le _) ts j hj
 have hlen := (text_len _ l 0 0 (Nat.zero_le _)).1 ts j hj
 have hlen2 : (textR true ts).length ≤ 2 * l.length := by have := text_first ts; omega
 have hwf := (wf_of _ l 0 0).1 ts j hj
 obtain ⟨us, hu, hsh⟩ := back (SizeOf.sizeOf ts + 1) ts (by omega) true 0 hwf (textR true ts) [] 0 (2 * (textR true ts).length + 2) (by simp) (by omega) (.inl rfl) (by omega)
 have hp : parseT (textR true ts) = (us, 0, 0) := by
  unfold parseT
  rw [if_neg (by omega), hu]
  simp
 rw [hp]
 refine ⟨h0, hlen2, rfl, hsh, (text_shape ts us true hsh).symm, by have := ((deepN _ l 0 0 (by omega)).1 ts j hj).1; omega, (deep_shape ts us hsh).symm, (placed _ l 0 0 (Nat.zero_le _)).1 ts j hj _ (by omega) (by omega)⟩
end
section
theorem joinW_flat : ∀ (w : List UInt8) (l : List (List UInt8)), joinW (w :: l) = w ++ l.flatMap (fun v => 32 :: v)
 | w, [] => by simp [joinW]
 | w, v :: l => by rw [joinW, joinW_flat v l]; simp
theorem textR_flat : ∀ (l : List Tr), textR false l = (l.map textI).flatMap (fun v => 32 :: v)
 | [] => by simp [textR]
 | t :: l => by rw [textR, textR_flat l]; simp
theorem textR_true (t : Tr) (l : List Tr) : textR true (t :: l) = joinW (textI t :: l.map textI) := by rw [textR, textR_flat, joinW_flat]; simp
theorem natText_ge2 {s : List UInt8} {b : Bool} {d : List Nat} (h : numOf s = some (b, d)) : d.length ≤ s.length := by
 obtain ⟨h1, h2⟩ := numOf_right h
 have := natText_ge d h1.1.1
 rw [← h2]
 unfold numText
 split
 · simp only [List.length_cons]; omega
 · exact this
theorem wordV_law {w : List UInt8} (hw : w.length ≤ 900000) (h : (wordV w).2 = true) : valText (wordV w).1 = w ∧ rightV (wordV w).1 ∧ smallV (wordV w).1 := by
 unfold wordV at h ⊢
 split
 · rename_i b d hn
   have hd := natText_ge2 hn
   obtain ⟨h1, h2⟩ := numOf_right hn
   refine ⟨?_, ?_, ?_⟩
   · rw [valText, if_pos rfl, h2]
   · rw [rightV]; exact ⟨by omega, fun _ => h1, trivial⟩
   · rw [smallV]; exact ⟨by omega, by simp, trivial⟩
 · rename_i hn
   rw [hn] at h
   dsimp only at h
   split
   · rename_i hb
     refine ⟨?_, ?_, ?_⟩
     · rw [valText, if_neg (by omega), if_pos rfl]
       unfold boolB
       rcases hb with rfl | rfl
       · rfl
       · rfl
     · rw [rightV]; exact ⟨by simp, fun h => by omega, trivial⟩
     · rw [smallV]; exact ⟨by simp, by simp, trivial⟩
   · rename_i hb
     rw [if_neg hb] at h
     cases h
theorem textI_row (x : List UInt8) (k : List Tr) (a : Int) : textI (.mk x k true a) = 40 :: (textR true k ++ [41]) := by rw [textI]; rfl
theorem textI_word (x : List UInt8) (k : List Tr) (a : Int) : textI (.mk x k false a) = x := by rw [textI]; rfl
theorem Wf_mem : ∀ {l : List Tr} {o : Nat} {t : Tr}, Wf o l → t ∈ l → Wf o [t]
 | .mk x k r a :: l, o, t, h, hm => by
  rw [Wf] at h
  rcases List.mem_cons.1 hm with rfl | hm
  · rw [Wf]; exact ⟨h.1, by rw [Wf]; trivial⟩
  · exact Wf_mem h.2 hm
theorem mem_flat {l : List Tr} {t : Tr} (h : t ∈ l) : (textI t).length ≤ (textR false l).length := by
 induction l with
 | nil => cases h
 | cons a l ih =>
  rw [textR]
  rcases List.mem_cons.1 h with rfl | h
  · simp; omega
  · have := ih h; simp; omega
theorem len_flat (l : List Tr) : l.length ≤ (textR false l).length := by
 induction l with
 | nil => simp
 | cons a l ih => rw [textR]; simp; omega
theorem true_flat (l : List Tr) : (textR false l).length ≤ (textR true l).length + 1 := by
 cases l with
 | nil => simp [textR]
 | cons a l => simp [textR]
theorem valT_law (ds : List Data) (N : Nat) : ∀ (t : Tr) (o : Nat), SizeOf.sizeOf t < N → Wf o [t] → (textI t).length ≤ 900000 →
    smallN t ∧ ((valT ds t).2 = true → valText (valT ds t).1 = textI t ∧ rightV (valT ds t).1 ∧ smallV (valT ds t).1) := by
 induction N with
 | zero => intro t o h; omega
 | succ N ih =>
  intro t o hN hwf htl
  obtain ⟨w, kids, row, a⟩ := t
  rw [Wf] at hwf
  have hwf := hwf.1
  cases row with
  | false =>
   rw [if_neg (by simp)] at hwf
   obtain ⟨rfl, hw, hs⟩ := hwf
   rw [textI_word] at htl ⊢
   refine ⟨by rw [smallN]; exact ⟨by omega, by simp, trivial⟩, ?_⟩
   intro h
   rw [valT_eq, if_pos rfl] at h ⊢
   exact wordV_law htl h
  | true =>
   rw [if_pos rfl] at hwf
   obtain ⟨rfl, ho, hk⟩ := hwf
   rw [textI_row] at htl ⊢
   have hf := true_flat kids
   have hfl := len_flat kids
   have hrl : (textR true kids).length + 2 ≤ 900000 := by simp at htl; omega
   have hall : ∀ t ∈ kids, smallN t ∧ ((valT ds t).2 = true → valText (valT ds t).1 = textI t ∧ rightV (valT ds t).1 ∧ smallV (valT ds t).1) := by
    intro t ht
    refine ih t (o + 1) (by have := List.sizeOf_lt_of_mem ht; simp at hN; omega) (Wf_mem hk ht) ?_
    have := mem_flat ht
    omega
   have hsk : ∀ l : List Tr, (∀ t ∈ l, smallN t) → smallNs l := by
    intro l
    induction l with
    | nil => intro _; trivial
    | cons t l ih => intro h; rw [smallNs]; exact ⟨h t (by simp), ih fun t ht => h t (by simp [ht])⟩
   refine ⟨by rw [smallN]; exact ⟨by simp, by omega, hsk kids fun t ht => (hall t ht).1⟩, ?_⟩
   intro h
   rw [valT_eq, if_neg (by simp)] at h ⊢
   cases kids with
   | nil =>
    dsimp only
    refine ⟨?_, ?_, ?_⟩
    · rw [valText, if_neg (by omega), if_neg (by omega), if_pos rfl, if_pos rfl]; simp [textR]
    · rw [rightV]; exact ⟨by simp, fun h => by omega, trivial⟩
    · rw [smallV]; exact ⟨by simp, by simp, trivial⟩
   | cons k0 ks =>
    dsimp only at h ⊢
    have hval : ∀ (l : List Tr) (fs : List Vl), (∀ t ∈ l, t ∈ k0 :: ks) → valTs ds l = some fs → valTexts fs = l.map textI ∧ rightVs fs ∧ smallVs fs ∧ fs.length = l.length := by
     intro l
     induction l with
     | nil => intro fs _ h; rw [valTs] at h; cases h; exact ⟨rfl, trivial, trivial, rfl⟩
     | cons t l ih =>
      intro fs hm h
      have ht := (hall t (hm t (by simp))).2
      rw [valTs] at h
      generalize valT ds t = q at *
      obtain ⟨v, b⟩ := q
      cases b with
      | false => cases h
      | true =>
       dsimp only at h ht
       obtain ⟨g1, g2, g3⟩ := ht rfl
       cases hl : valTs ds l with
       | none => rw [hl] at h; cases h
       | some gs =>
        rw [hl] at h
        cases h
        obtain ⟨h1, h2, h3, h4⟩ := ih gs (fun t ht => hm t (by simp [ht])) hl
        exact ⟨by rw [valTexts, h1, g1]; rfl, by rw [rightVs]; exact ⟨g2, h2⟩, by rw [smallVs]; exact ⟨g3, h3⟩, by simp [h4]⟩
    by_cases hc : (k0.row || !conB ds k0.word) = true
    · rw [if_pos hc] at h; cases h
    · rw [if_neg hc] at h ⊢
      cases hv : valTs ds ks with
      | none => rw [hv] at h; cases h
      | some fs =>
       dsimp only
       obtain ⟨g1, g2, g3, g4⟩ := hval ks fs (fun t ht => by simp [ht]) hv
       obtain ⟨x0, kk0, r0, a0⟩ := k0
       have hr0 : r0 = false := by cases r0 with
        | false => rfl
        | true => exact absurd rfl hc
       subst hr0
       rw [Wf] at hk
       have hk0 := hk.1
       rw [if_neg (by simp)] at hk0
       have hx0 : x0 ≠ [] := hk0.2.1
       simp only [Tr.word]
       refine ⟨?_, ?_, ?_⟩
       · rw [valText, if_neg (by omega), if_neg (by omega), if_pos rfl, if_neg hx0, textR_true, textI_word, g1]; simp
       · rw [rightV]; exact ⟨by simp, fun h => by omega, g2⟩
       · rw [smallV]; exact ⟨by simp, by simp at hfl; omega, g3⟩
theorem valT_shape (ds : List Data) (N : Nat) : (∀ (a b : Tr), SizeOf.sizeOf a < N → shapeT [a] [b] = true → valT ds a = valT ds b) ∧ (∀ (l m : List Tr), SizeOf.sizeOf l < N → shapeT l m = true → valTs ds l = valTs ds m) := by
 induction N with
 | zero => exact ⟨fun a b h => by omega, fun l m h => by omega⟩
 | succ N ih =>
  constructor
  · intro a b hN h
    obtain ⟨x, k, r, p⟩ := a
    obtain ⟨y, m, r2, p2⟩ := b
    simp only [shapeT, Bool.and_true, Bool.and_eq_true, beq_iff_eq] at h
    obtain ⟨⟨rfl, rfl⟩, hk⟩ := h
    rw [valT_eq, valT_eq]
    split
    · rfl
    · cases k with
      | nil =>
       cases m with
       | nil => rfl
       | cons b m => simp [shapeT] at hk
      | cons a k =>
       cases m with
       | nil => obtain ⟨_, _, _, _⟩ := a; simp [shapeT] at hk
       | cons b m =>
        obtain ⟨x1, k1, r1, p1⟩ := a
        obtain ⟨y1, m1, s1, q1⟩ := b
        simp only [shapeT, Bool.and_eq_true, beq_iff_eq] at hk
        obtain ⟨⟨⟨rfl, rfl⟩, _⟩, hk⟩ := hk
        dsimp only
        rw [ih.2 k m (by simp at hN; omega) hk]
        rfl
  · intro l m hN h
    cases l with
    | nil =>
     cases m with
     | nil => rfl
     | cons b m => simp [shapeT] at h
    | cons a l =>
     cases m with
     | nil => obtain ⟨_, _, _, _⟩ := a; simp [shapeT] at h
     | cons b m =>
      have h1 : shapeT [a] [b] = true ∧ shapeT l m = true := by
       obtain ⟨x1, k1, r1, p1⟩ := a
       obtain ⟨y1, m1, s1, q1⟩ := b
       simp only [shapeT, Bool.and_true, Bool.and_eq_true, beq_iff_eq] at h ⊢
       exact ⟨h.1, h.2⟩
      rw [valTs, valTs, ih.1 a b (by simp at hN; omega) h1.1, ih.2 l m (by simp at hN; omega) h1.2]
def parseV (ds : List Data) (sort s : List UInt8) : Vl × Bool :=
 if (parseT s).2.2 = 0 then match (parseT s).1 with
  | [t] => if (valT ds t).2 && ofV ds sort (valT ds t).1 then ((valT ds t).1, true) else (zeroV, false)
  | _ => (zeroV, false)
 else (zeroV, false)
theorem parse_small {s : List UInt8} (h : (parseT s).2.2 = 0) {t : Tr} (ht : (parseT s).1 = [t]) : Wf 0 [t] ∧ (textI t).length ≤ 2 * s.length ∧ s.length ≤ 262144 := by
 obtain ⟨h1, j, hj, hjl, h0⟩ := parse_ok h
 have hwf := (wf_of _ s 0 0).1 _ j hj
 have hle := rowN_le _ s 0 0 (Nat.zero_le _) _ j hj
 have hlen := (text_len _ s 0 0 (Nat.zero_le _)).1 _ j hj
 have hl := text_first (parseT s).1
 rw [ht] at hwf hl hlen
 refine ⟨hwf, ?_, h1⟩
 have htt : textR true [t] = textI t := by simp [textR]
 rw [htt] at hl
 omega
theorem parseV_ok {ds : List Data} {sort s : List UInt8} (h : (parseV ds sort s).2 = true) : ∃ t, (parseT s).2.2 = 0 ∧ (parseT s).1 = [t] ∧ (valT ds t).2 = true ∧ ofV ds sort (valT ds t).1 = true ∧ parseV ds sort s = ((valT ds t).1, true) := by
 unfold parseV at h ⊢
 by_cases he : (parseT s).2.2 = 0
 · rw [if_pos he] at h
   split at h
   · rename_i t ht
     by_cases hc : ((valT ds t).2 && ofV ds sort (valT ds t).1) = true
     · have hc2 := hc
       simp only [Bool.and_eq_true] at hc2
       refine ⟨t, he, ht, hc2.1, hc2.2, ?_⟩
       rw [if_pos he, if_pos hc]
     · rw [if_neg hc] at h; cases h
   · cases h
 · rw [if_neg he] at h; cases h
theorem parseV_of {ds : List Data} {sort s : List UInt8} {t : Tr} (h0 : (parseT s).2.2 = 0) (h1 : (parseT s).1 = [t]) (h2 : (valT ds t).2 = true) (h3 : ofV ds sort (valT ds t).1 = true) : parseV ds sort s = ((valT ds t).1, true) := by
 unfold parseV
 rw [if_pos h0, h1]
 dsimp only
 rw [h2, h3]
 rfl
theorem parseV_law (ds : List Data) (sort s : List UInt8) (hs : s.length ≤ 5000) (h : (parseV ds sort s).2 = true) :
    (valText (parseV ds sort s).1).length ≤ 2 * s.length ∧ rightV (parseV ds sort s).1 ∧ smallV (parseV ds sort s).1 ∧ ofV ds sort (parseV ds sort s).1 = true ∧
    parseV ds sort (valText (parseV ds sort s).1) = parseV ds sort s := by
 obtain ⟨t, h0, h1, h2, h3, h4⟩ := parseV_ok h
 obtain ⟨hwf, htl, _⟩ := parse_small h0 h1
 obtain ⟨hsn, hvl⟩ := valT_law ds _ t 0 (Nat.lt_succ_self _) hwf (by omega)
 obtain ⟨g1, g2, g3⟩ := hvl h2
 rw [h4]
 dsimp only
 rw [g1]
 obtain ⟨_, _, b3, b4, _⟩ := lexBack_law hs h0
 have htt : textR true [t] = textI t := by simp [textR]
 rw [h1, htt] at b3 b4
 refine ⟨htl, g2, g3, h3, ?_⟩
 have hlen := shapeT_len _ _ b4
 obtain ⟨u, hu⟩ : ∃ u, (parseT (textI t)).1 = [u] := by
  generalize (parseT (textI t)).1 = us at *
  match us, hlen with
  | [u], _ => exact ⟨u, rfl⟩
 rw [hu] at b4
 have hv := (valT_shape ds _).1 t u (Nat.lt_succ_self _) b4
 rw [parseV_of b3 hu (by rw [← hv]; exact h2) (by rw [← hv]; exact h3), hv]
end
section
open Go.RowKit
theorem lexParse_ev (s : List UInt8) (σ : Sto) (hs : s.length ≤ 140737488355328) : CallW Tryz.prog EV 26 [.lit (.string (bs s))] σ fun r σ' => r = .ret (.tup [.sl (rowsOf (parseT s).1) .no, .lit (.int .i64 (parseT s).2.1), .lit (.int .i64 (parseT s).2.2)]) ∧ σ' = σ := by
 refine CallW.prim (g := primParse) rfl (σ' := σ) (r := .ret (.tup [.sl (rowsOf (parseT s).1) .no, .lit (.int .i64 (parseT s).2.1), .lit (.int .i64 (parseT s).2.2)])) ?_ ⟨rfl, rfl⟩
 unfold primParse
 dsimp only
 rw [if_pos (by rw [bsz]; unfold maxLen; omega)]
 rfl
theorem vparse_ev (ds : List Data) (tok : Tok) (hds : smallD ds) (sort s : List UInt8) (σ : Sto) (hs : s.length ≤ 1000000) : CallW Tryz.prog EV 12 [.sl (rowsD ds) tok, .lit (.string (bs sort)), .lit (.string (bs s))] σ fun r σ' => (∃ t1 t2, r = .ret (.tup [aggV (parseV ds sort s).1 t1 t2, .lit (.bool (parseV ds sort s).2)])) ∧ Ext σ σ' := by
 refine CallW.start (fn := Tryz.f12) (M := []) rfl rfl rfl rfl (by simp) fun tm hlen hss => ?_
 have h0 := hss 0 _ rfl
 have h1 := hss 1 _ rfl
 have h2 := hss 2 _ rfl
 clear hss
 simp at hlen
 refine CW.hide fun R0 hR0 => ?_
 have done : ∀ (v : Vl) (ok : Bool) (t1 t2 : Tok) (tm : List AV) (σ1 : Sto), (v, ok) = parseV ds sort s → tm.length = 47 → slot tm 6 = .ptr σ.length 0 → slot tm 7 = .lit (.bool ok) → (∀ c, aggV v t1 t2 = .agg c → σ1[σ.length]? = some (.cells c 37)) → Ext σ σ1 → R0 .ret tm σ1 := by
  intro v ok t1 t2 tm σ1 hv hlen h6 h7 hc hx
  refine hR0 _ _ _ ⟨.tup [aggV v t1 t2, .lit (.bool ok)], ?_, ⟨t1, t2, by rw [← hv]⟩, hx⟩
  obtain ⟨k, b, d, t, n, f⟩ := v
  have hc := hc _ rfl
  simp (maxDischargeDepth := 16) [zA, omap, zB, zC, h6, h7, hc, partA, aggT, aggV]
 clear hR0
 refine CW.seqK fun K hK => CW.region ?_
 simp (maxDischargeDepth := 16) [symB, List.length_set, andThen, hlen, h0]
 refine hK _ _ ?_; clear hK K
 have hx0 : Ext σ (σ ++ [AObj.cells [.lit (.int .u8 0), .lit (.bool false), .sl [] .full, .lit (.bool false), .lit (.string ⟨#[]⟩), .sl [] .full] 37]) := ⟨_, rfl⟩
 have ho0 : (σ ++ [AObj.cells [.lit (.int .u8 0), .lit (.bool false), .sl [] .full, .lit (.bool false), .lit (.string ⟨#[]⟩), .sl [] .full] 37])[σ.length]? = some (.cells [.lit (.int .u8 0), .lit (.bool false), .sl [] .full, .lit (.bool false), .lit (.string ⟨#[]⟩), .sl [] .full] 37) := by simp
 generalize (σ ++ [AObj.cells [.lit (.int .u8 0), .lit (.bool false), .sl [] .full, .lit (.bool false), .lit (.string ⟨#[]⟩), .sl [] .full] 37]) = σA at *
 refine CW.reset (fun tm => tm.length = 47 ∧ slot tm 0 = .sl (rowsD ds) tok ∧ slot tm 1 = .lit (.string (bs sort)) ∧ slot tm 2 = .lit (.string (bs s)) ∧ slot tm 6 = .ptr σ.length 0) ⟨by simp [hlen], by simp (maxDischargeDepth := 16) [slot_ne, h0], by simp (maxDischargeDepth := 16) [slot_ne, h1], by simp (maxDischargeDepth := 16) [slot_ne, h2], by simp (maxDischargeDepth := 16) [slot_eq, slot_ne, hlen]⟩ ?_
 clear h0 h1 h2 hlen tm
 rintro tm ⟨hlen, h0, h1, h2, h6⟩
 have hbad1 : ¬ (parseT s).2.2 = 0 → parseV ds sort s = (zeroV, false) := fun h => by unfold parseV; rw [if_neg h]
 have hbad2 : (parseT s).2.2 = 0 → (parseT s).1.length ≠ 1 → parseV ds sort s = (zeroV, false) := fun h h2 => by
  unfold parseV
  rw [if_pos h]
  split
  · rename_i t ht
    rw [ht] at h2; exact absurd rfl h2
  · rfl
 have hbad3 : ∀ t, (parseT s).2.2 = 0 → (parseT s).1 = [t] → ((valT ds t).2 && ofV ds sort (valT ds t).1) = false → parseV ds sort s = (zeroV, false) := fun t h h2 h3 => by
  unfold parseV
  rw [if_pos h, h2]
  dsimp only
  rw [h3]; rfl
 have hgood : ∀ t, (parseT s).2.2 = 0 → (parseT s).1 = [t] → (valT ds t).2 = true → ofV ds sort (valT ds t).1 = true → parseV ds sort s = ((valT ds t).1, true) := fun t h h2 h3 h4 => parseV_of h h2 h3 h4
 have hsm : ∀ t, (parseT s).2.2 = 0 → (parseT s).1 = [t] → smallN t ∧ ((valT ds t).2 = true → smallV (valT ds t).1) := fun t h h2 => by
  obtain ⟨hwf, htl, hsl⟩ := parse_small h h2
  obtain ⟨a, b⟩ := valT_law ds _ t 0 (Nat.lt_succ_self _) hwf (by omega)
  exact ⟨a, fun h => (b h).2.2⟩
 generalize parseV ds sort s = res at *
 refine CW.seqK fun K hK => CW.region ?_
 simp (maxDischargeDepth := 16) [symB, List.length_set, andThen, hlen, h2]
 refine (lexParse_ev s σA (by omega)).mono ?_
 rintro r σA ⟨rfl, rfl⟩
 generalize (parseT s).2.1 = pe at *
 generalize (parseT s).2.2 = e at *
 generalize (parseT s).1 = ts at *
 simp (maxDischargeDepth := 16) [symB, List.length_set, andThen, hlen, retK]
 refine hK _ _ ?_; clear hK K
 refine CW.reset (fun tm => tm.length = 47 ∧ slot tm 0 = .sl (rowsD ds) tok ∧ slot tm 1 = .lit (.string (bs sort)) ∧ slot tm 6 = .ptr σ.length 0 ∧ slot tm 8 = .sl (rowsOf ts) .no ∧ slot tm 10 = .lit (.int .i64 e)) ⟨by simp [hlen], by simp (maxDischargeDepth := 16) [slot_ne, h0], by simp (maxDischargeDepth := 16) [slot_ne, h1], by simp (maxDischargeDepth := 16) [slot_ne, h6], by simp (maxDischargeDepth := 16) [slot_eq, slot_ne, hlen], by simp (maxDischargeDepth := 16) [slot_eq, slot_ne, hlen]⟩ ?_
 clear h0 h1 h2 h6 hlen tm
 rintro tm ⟨hlen, h0, h1, h6, h8, h10⟩
 have hzero : ∀ σ2 : Sto, Ext σA σ2 → ∃ c, c = [AV.lit (.int .u8 0), .lit (.bool false), .sl [] .full, .lit (.bool false), .lit (.string ⟨#[]⟩), .sl [] .full] ∧ σ2[σ.length]? = some (.cells c 37) := fun σ2 hx => ⟨_, rfl, hx.get ho0⟩
 have bad : ∀ (b : Bool) (tm : List AV) (σ2 : Sto) (K : List AV → Sto → Prop), b = true → res = (zeroV, false) → tm.length = 47 → slot tm 6 = .ptr σ.length 0 → slot tm 25 = .lit (.bool true) → Ext σA σ2 → CW Tryz.prog EV [] (match Tryz.f12.body.getD .skip with | .seq _ (.seq _ (.seq (.seq _ x) _)) => x | _ => .skip) tm σ2 (andThen K R0) := by
  intro b tm σ2 K _ hr hlen h6 h25 hx
  have ho2 := hx.get ho0
  have hl2 := (List.getElem?_eq_some_iff.1 ho2).1
  refine CW.cond (t := true) (by simp (maxDischargeDepth := 16) [zT, slot_eq, slot_ne, hlen, h25]) ?_
  refine CW.seqK fun K2 hK2 => CW.region ?_
  simp (maxDischargeDepth := 16) [symB, List.length_set, andThen, hlen, h6, ho2]
  refine hK2 _ _ ?_
  refine CW.ret ?_
  simp only [andThen]
  refine done zeroV false .full .full _ _ hr.symm (by simp [hlen]) (by simp (maxDischargeDepth := 16) [slot_ne, h6]) (by simp (maxDischargeDepth := 16) [slot_eq, slot_ne, hlen]) ?_ ((hx0.trans hx).set (by omega))
  intro c hcc
  unfold aggV zeroV at hcc
  cases hcc
  rw [List.getElem?_set_self hl2]
  rfl
 refine CW.seqK fun K hK => ?_
 refine CW.seqK fun K2 hK2 => CW.region ?_
 by_cases he : e = 0
 · subst he
   by_cases hl1 : ts.length = 1
   · obtain ⟨t, rfl⟩ : ∃ t, ts = [t] := List.length_eq_one_iff.1 hl1
     have hrl : (rowsOf [t]).length = 1 := by rw [rowsOf_length]; rfl
     simp (maxDischargeDepth := 16) [symB, List.length_set, andThen, hlen, h10, h8, hrl]
     refine hK2 _ _ ?_
     refine CW.cond (t := false) (by simp (maxDischargeDepth := 16) [zT, slot_eq, slot_ne, hlen]) ?_
     refine CW.skip ?_
     simp only [andThen]
     refine hK _ _ ?_; clear hK K hK2 K2
     obtain ⟨hsn, hsv⟩ := hsm t rfl rfl
     have hb3 := hbad3 t rfl rfl
     have hgd := hgood t rfl rfl
     clear hbad1 hbad2 hbad3 hgood hsm
     have hg0 := rowsOf_get (l := [t]) (i := 0) (t := t) rfl
     have hval := value_ev ds tok hds _ t .no σA (Nat.lt_succ_self _) hsn
     unfold NodeR at hval
     generalize valT ds t = q at *
     obtain ⟨tw, tks, trw, tat⟩ := t
     simp only [Tr.word, Tr.kids, Tr.row, Tr.at_, bs_def] at hg0
     unfold nodeC at hval
     obtain ⟨v, ok⟩ := q
     dsimp only at hval hb3 hgd hsv
     refine CW.seqK fun K hK => CW.region ?_
     simp (maxDischargeDepth := 16) [symB, List.length_set, andThen, hlen, h0, h8, hg0]
     refine hval.mono ?_
     rintro r σ2 ⟨⟨u1, u2, rfl⟩, hx2⟩
     obtain ⟨vk, vb, vd, vt, vn, vf⟩ := v
     have hof := fun (t1 t2 : Tok) (σ : Sto) (h : ok = true) => Of_ev ds tok hds (.mk vk vb vd vt vn vf) sort t1 t2 σ (hsv h)
     unfold aggV at hof ⊢
     simp (maxDischargeDepth := 16) [symB, List.length_set, andThen, hlen, retK]
     refine hK _ _ ?_; clear hK K
     have hx3 : Ext σA (σ2 ++ [AObj.cells [.lit (.int .u8 vk), .lit (.bool vb), .sl (d32 vd) u1, .lit (.bool vt), .lit (.string (bs vn)), .sl (rowsV vf) u2] 37]) := hx2.push _
     have ho3 : (σ2 ++ [AObj.cells [.lit (.int .u8 vk), .lit (.bool vb), .sl (d32 vd) u1, .lit (.bool vt), .lit (.string (bs vn)), .sl (rowsV vf) u2] 37])[σ2.length]? = some (.cells [.lit (.int .u8 vk), .lit (.bool vb), .sl (d32 vd) u1, .lit (.bool vt), .lit (.string (bs vn)), .sl (rowsV vf) u2] 37) := by simp
     generalize (σ2 ++ [AObj.cells [.lit (.int .u8 vk), .lit (.bool vb), .sl (d32 vd) u1, .lit (.bool vt), .lit (.string (bs vn)), .sl (rowsV vf) u2] 37]) = σ3 at *
     refine CW.reset (fun tm => tm.length = 47 ∧ slot tm 0 = .sl (rowsD ds) tok ∧ slot tm 1 = .lit (.string (bs sort)) ∧ slot tm 6 = .ptr σ.length 0 ∧ slot tm 11 = .ptr σ2.length 0 ∧ slot tm 12 = .lit (.bool ok)) ⟨by simp [hlen], by simp (maxDischargeDepth := 16) [slot_ne, h0], by simp (maxDischargeDepth := 16) [slot_ne, h1], by simp (maxDischargeDepth := 16) [slot_ne, h6], by simp (maxDischargeDepth := 16) [slot_eq, slot_ne, hlen], by simp (maxDischargeDepth := 16) [slot_eq, slot_ne, hlen]⟩ ?_
     clear h0 h1 h6 h8 h10 hlen tm
     rintro tm ⟨hlen, h0, h1, h6, h11, h12⟩
     have bad2 : ∀ (tm : List AV) (σ2 : Sto) (K : List AV → Sto → Prop), res = (zeroV, false) → tm.length = 47 → slot tm 6 = .ptr σ.length 0 → slot tm 44 = .lit (.bool true) → Ext σA σ2 → CW Tryz.prog EV [] (match Tryz.f12.body.getD .skip with | .seq _ (.seq _ (.seq _ (.seq _ (.seq (.seq _ x) _)))) => x | _ => .skip) tm σ2 (andThen K R0) := by
      intro tm σ2 K hr hlen h6 h25 hx
      have ho2 := hx.get ho0
      have hl2 := (List.getElem?_eq_some_iff.1 ho2).1
      refine CW.cond (t := true) (by simp (maxDischargeDepth := 16) [zT, slot_eq, slot_ne, hlen, h25]) ?_
      refine CW.seqK fun K2 hK2 => CW.region ?_
      simp (maxDischargeDepth := 16) [symB, List.length_set, andThen, hlen, h6, ho2]
      refine hK2 _ _ ?_
      refine CW.ret ?_
      simp only [andThen]
      refine done zeroV false .full .full _ _ hr.symm (by simp [hlen]) (by simp (maxDischargeDepth := 16) [slot_ne, h6]) (by simp (maxDischargeDepth := 16) [slot_eq, slot_ne, hlen]) ?_ ((hx0.trans hx).set (by omega))
      intro c hcc
      unfold aggV zeroV at hcc
      cases hcc
      rw [List.getElem?_set_self hl2]
      rfl
     refine CW.seqK fun K hK => ?_
     refine CW.seqK fun K2 hK2 => CW.region ?_
     cases ok with
     | false =>
      simp (maxDischargeDepth := 16) [symB, List.length_set, andThen, hlen, h12]
      refine hK2 _ _ ?_
      exact bad2 _ _ K (hb3 rfl) (by simp [hlen]) (by simp (maxDischargeDepth := 16) [slot_ne, h6]) (by simp (maxDischargeDepth := 16) [slot_eq, slot_ne, hlen]) hx3
     | true =>
      simp (maxDischargeDepth := 16) [symB, List.length_set, andThen, hlen, h12, h0, h1, h11, ho3]
      refine (hof u1 u2 σ3 rfl).mono ?_
      rintro r σ4 ⟨rfl, hx4⟩
      cases hofv : ofV ds sort (.mk vk vb vd vt vn vf) with
      | false =>
       simp (maxDischargeDepth := 16) [symB, List.length_set, andThen, hlen, retK]
       refine hK2 _ _ ?_
       exact bad2 _ _ K (hb3 (by rw [hofv]; rfl)) (by simp [hlen]) (by simp (maxDischargeDepth := 16) [slot_ne, h6]) (by simp (maxDischargeDepth := 16) [slot_eq, slot_ne, hlen]) (hx3.trans hx4)
      | true =>
       have hgr := hgd rfl hofv
       simp (maxDischargeDepth := 16) [symB, List.length_set, andThen, hlen, retK]
       refine hK2 _ _ ?_
       refine CW.cond (t := false) (by simp (maxDischargeDepth := 16) [zT, slot_eq, slot_ne, hlen]) ?_
       refine CW.skip ?_
       simp only [andThen]
       refine hK _ _ ?_
       have ho4 := hx4.get ho3
       have hoz := (hx3.trans hx4).get ho0
       have hl4 := (List.getElem?_eq_some_iff.1 hoz).1
       refine CW.seqK fun K3 hK3 => CW.region ?_
       simp (maxDischargeDepth := 16) [symB, List.length_set, andThen, hlen, h11, h6, ho4, hoz]
       refine hK3 _ _ ?_
       refine CW.ret ?_
       refine done (.mk vk vb vd vt vn vf) true u1 u2 _ _ hgr.symm (by simp [hlen]) (by simp (maxDischargeDepth := 16) [slot_ne, h6]) (by simp (maxDischargeDepth := 16) [slot_eq, slot_ne, hlen]) ?_ (((hx0.trans hx3).trans hx4).set (by omega))
       intro c hcc
       unfold aggV at hcc
       cases hcc
       rw [List.getElem?_set_self hl4]
       try rfl
   · have hl2 : ¬ (ts.length : Int) = 1 := by omega
     simp (maxDischargeDepth := 16) [symB, List.length_set, andThen, hlen, h10, h8, rowsOf_length, hl1, hl2]
     refine hK2 _ _ ?_
     exact bad true _ _ K rfl (hbad2 rfl hl1) (by simp [hlen]) (by simp (maxDischargeDepth := 16) [slot_ne, h6]) (by simp (maxDischargeDepth := 16) [slot_eq, slot_ne, hlen, hl2]) (.refl _)
 · simp (maxDischargeDepth := 16) [symB, List.length_set, andThen, hlen, h10, he]
   refine hK2 _ _ ?_
   exact bad true _ _ K rfl (hbad1 he) (by simp [hlen]) (by simp (maxDischargeDepth := 16) [slot_ne, h6]) (by simp (maxDischargeDepth := 16) [slot_eq, slot_ne, hlen]) (.refl _)
end
section
open Go.RowKit
def bndD (ds : List Data) : Prop := ds.length ≤ 140737488355328 ∧ ∀ d ∈ ds, d.1.length ≤ 140737488355328 ∧ d.2.length ≤ 140737488355328 ∧ ∀ c ∈ d.2, c.1.length ≤ 140737488355328 ∧ c.2.length ≤ 140737488355328
end
end Go.Proofs.YtmmgjaheffbpaaaGreatDoor
