/-
  LEX, PLAIN: the document's Parse, by rows that are open, is the parser's.
-/
import Derived.Test.YtocaickbfeaiaaaDoorEvRefParse
import Derived.Test.YtocaickbfeaiaaaDoorLexPlain
namespace Go.Proofs.YtocaickbfeaiaaaDoor
set_option linter.unusedSimpArgs false
set_option linter.unusedVariables false

theorem skip_stops (p : UInt8 → Bool) (l : List UInt8) (i : Nat) {c : UInt8} (h : l[skipTo p l i]? = some c) : p c = false := by
  unfold skipTo at h
  rw [← List.getElem?_drop] at h
  generalize l.drop i = m at h
  induction m with
  | nil => simp at h
  | cons a m ih =>
    rw [List.takeWhile_cons] at h
    split at h
    · exact ih (by simpa using h)
    · rename_i hp
      simp at h; subst h
      simpa using hp

theorem runP_fuel (l : List UInt8) : ∀ (k i m : Nat) (st : List (List Tr × Int)), l.length - i ≤ k → l.length - i < m → runP m l i st = runP (l.length - i + 1) l i st := by
  intro k
  induction k with
  | zero =>
    intro i m st hk hm
    obtain ⟨m, rfl⟩ : ∃ n, m = n + 1 := ⟨m - 1, by omega⟩
    have hn : l[i]? = none := List.getElem?_eq_none (by omega)
    show (match l[i]? with | none => _ | some c => _) = (match l[i]? with | none => _ | some c => _)
    rw [hn]
  | succ k ih =>
    intro i m st hk hm
    obtain ⟨m, rfl⟩ : ∃ n, m = n + 1 := ⟨m - 1, by omega⟩
    cases hc : l[i]? with
    | none =>
      show (match l[i]? with | none => _ | some c => _) = (match l[i]? with | none => _ | some c => _)
      rw [hc]
    | some c =>
      have hlt := (List.getElem?_eq_some_iff.1 hc).1
      rw [runP_some hc, runP_some hc]
      have e1 : ∀ st, runP m l (i + 1) st = runP (l.length - i) l (i + 1) st := fun st => by rw [ih (i + 1) m st (by omega) (by omega), ih (i + 1) (l.length - i) st (by omega) (by omega)]
      have hge := skipTo_ge sgn l i
      rw [e1, e1, e1]
      split
      · rfl
      · split
        · rfl
        · split
          · rfl
          · split
            · rename_i hs
              have hgt : i < skipTo sgn l i := by
                have := skipTo_yes sgn l i hlt (by have := List.getElem?_eq_getElem hlt; rw [hc] at this; injection this with this; rw [← this]; exact hs)
                have h2 := skipTo_ge sgn l (i + 1)
                omega
              rw [ih _ m _ (by omega) (by omega), ih _ (l.length - i) _ (by omega) (by omega)]
            · rfl

/-- with fuel enough -/
def runA (l : List UInt8) (i : Nat) (st : List (List Tr × Int)) : Res (List Tr) := runP (l.length - i + 1) l i st

theorem runA_some {l : List UInt8} {i : Nat} {st : List (List Tr × Int)} {c : UInt8} (h : l[i]? = some c) : runA l i st =
      if blk c then runA l (i + 1) st
      else if c = 40 then (if 400 < st.length then .bad i 3 else runA l (i + 1) (([], (i : Int)) :: st))
      else if c = 41 then (if st.length = 1 then .bad i 20 else runA l (i + 1) (closeS st))
      else if sgn c then runA l (skipTo sgn l i) (putS st (.mk ((l.drop i).takeWhile sgn) [] false i))
      else .bad i 20 := by
  have hlt := (List.getElem?_eq_some_iff.1 h).1
  unfold runA
  rw [runP_some h]
  have e1 : ∀ st, runP (l.length - i) l (i + 1) st = runP (l.length - (i + 1) + 1) l (i + 1) st := fun st => runP_fuel l _ (i + 1) _ st (Nat.le_refl _) (by omega)
  rw [e1, e1, e1]
  split
  · rfl
  · split
    · rfl
    · split
      · rfl
      · split
        · rename_i hs
          have hgt : i < skipTo sgn l i := by
            have := skipTo_yes sgn l i hlt (by have := List.getElem?_eq_getElem hlt; rw [h] at this; injection this with this; rw [← this]; exact hs)
            have h2 := skipTo_ge sgn l (i + 1)
            omega
          rw [runP_fuel l _ _ _ _ (Nat.le_refl _) (by omega)]
        · rfl
theorem runA_none {l : List UInt8} {i : Nat} {xs : List Tr} {b : Int} {rest : List (List Tr × Int)} (h : l[i]? = none) : runA l i ((xs, b) :: rest) = if 1 < rest.length + 1 then .bad l.length 20 else .ok xs := runP_none h

theorem runA_skip (l : List UInt8) : ∀ (k i : Nat) (st : List (List Tr × Int)), l.length - i ≤ k → runA l i st = runA l (skipTo blk l i) st := by
  intro k
  induction k with
  | zero => intro i st hk; rw [skipTo_end blk l i (by omega)]
  | succ k ih =>
    intro i st hk
    rcases Nat.lt_or_ge i l.length with hlt | hge
    · cases hb : blk l[i] with
      | true =>
        rw [runA_some (List.getElem?_eq_getElem hlt), if_pos hb, ih (i + 1) st (by omega), skipTo_yes blk l i hlt hb]
      | false => rw [skipTo_no blk l i hlt hb]
    · rw [skipTo_end blk l i hge]

theorem run_rows (n : Nat) : ∀ (l : List UInt8) (i o : Nat) (xs : List Tr) (b : Int) (rest : List (List Tr × Int)), i ≤ l.length → rest.length = o → o ≤ 400 →
    (2 * (l.length - i) + 1 ≤ n → (∀ ts j, rowN n l i o = .ok (ts, j) → runA l i ((xs, b) :: rest) = runA l j ((xs ++ ts, b) :: rest) ∧ (l[j]? = none ∨ l[j]? = some 41)) ∧ ∀ p e, rowN n l i o = .bad p e → runA l i ((xs, b) :: rest) = .bad p e) ∧
    (2 * (l.length - i) ≤ n → ∀ c, l[i]? = some c → blk c = false → c ≠ 41 → (∀ t k, treeN n l i o = .ok (t, k) → runA l i ((xs, b) :: rest) = runA l k ((xs ++ [t], b) :: rest)) ∧ ∀ p e, treeN n l i o = .bad p e → runA l i ((xs, b) :: rest) = .bad p e) := by
  induction n with
  | zero =>
    intro l i o xs b rest hi ho h400
    refine ⟨fun h => by omega, fun h c hc => ?_⟩
    have := (List.getElem?_eq_some_iff.1 hc).1
    omega
  | succ n ih =>
    intro l i o xs b rest hi ho h400
    refine ⟨fun hn => ?_, fun hn c hc hb h41 => ?_⟩
    · have hge := skipTo_ge blk l i
      have hle := skipTo_le blk l i hi
      have hsk := runA_skip l _ i ((xs, b) :: rest) (Nat.le_refl _)
      rw [rowN, hsk]
      have hst := @skip_stops blk l i
      generalize skipTo blk l i = i' at *
      cases hc : l[i']? with
      | none =>
        refine ⟨fun ts j h => ?_, fun p e h => by cases h⟩
        cases h
        exact ⟨by simp, .inl hc⟩
      | some c =>
        dsimp only
        have hlt := (List.getElem?_eq_some_iff.1 hc).1
        by_cases h41 : c = 41
        · rw [if_pos h41]
          refine ⟨fun ts j h => ?_, fun p e h => by cases h⟩
          cases h
          exact ⟨by simp, .inr (by rw [hc, h41])⟩
        · rw [if_neg h41]
          obtain ⟨t1, t2⟩ := (ih l i' o xs b rest hle ho h400).2 (by omega) c hc (hst hc) h41
          cases ht : treeN n l i' o with
          | bad p e =>
            refine ⟨fun ts j h => by simp at h, fun p' e' h => ?_⟩
            simp at h
            obtain ⟨rfl, rfl⟩ := h
            exact t2 _ _ ht
          | ok q =>
            obtain ⟨t, k⟩ := q
            dsimp only
            have e1 := t1 t k ht
            have hk := treeN_le n l i' o hle t k ht
            have hk2 := treeN_lt n l i' o hle t k ht
            obtain ⟨r1, r2⟩ := (ih l k o (xs ++ [t]) b rest hk.2 ho h400).1 (by omega)
            cases hr : rowN n l k o with
            | bad p e =>
              refine ⟨fun ts j h => by simp at h, fun p' e' h => ?_⟩
              simp at h
              obtain ⟨rfl, rfl⟩ := h
              rw [e1]; exact r2 _ _ hr
            | ok q =>
              obtain ⟨ts', m⟩ := q
              refine ⟨fun ts j h => ?_, fun p e h => by simp at h⟩
              simp at h
              obtain ⟨rfl, rfl⟩ := h
              obtain ⟨g1, g2⟩ := r1 _ _ hr
              exact ⟨by rw [e1, g1]; simp, g2⟩
    · have hlt := (List.getElem?_eq_some_iff.1 hc).1
      have hci : c = l[i] := by have := List.getElem?_eq_getElem hlt; rw [hc] at this; exact Option.some.inj this
      have eA := runA_some (st := (xs, b) :: rest) hc
      rw [if_neg (by simp [hb])] at eA
      rw [eA]
      clear eA
      rw [treeN]
      by_cases h40 : c = 40
      · subst h40
        rw [if_pos hc, if_pos (show (40 : UInt8) = 40 from rfl)]
        by_cases ho4 : o < 400
        · rw [if_pos ho4, if_neg (by simp; omega)]
          obtain ⟨r1, r2⟩ := (ih l (i + 1) (o + 1) [] (i : Int) ((xs, b) :: rest) (by omega) (by simp; omega) (by omega)).1 (by omega)
          cases hr : rowN n l (i + 1) (o + 1) with
          | bad p e =>
            refine ⟨fun ts j h => by simp at h, fun p' e' h => ?_⟩
            simp at h
            obtain ⟨rfl, rfl⟩ := h
            exact r2 _ _ hr
          | ok q =>
            obtain ⟨ts, j⟩ := q
            obtain ⟨g1, g2⟩ := r1 _ _ hr
            dsimp only
            rw [g1]
            by_cases hj : j < l.length
            · rw [if_pos hj]
              refine ⟨fun t k h => ?_, fun p e h => by simp at h⟩
              simp at h
              obtain ⟨rfl, rfl⟩ := h
              rcases g2 with g2 | g2
              · rw [List.getElem?_eq_none_iff] at g2; omega
              · rw [runA_some g2, if_neg (by decide), if_neg (by decide), if_pos rfl, if_neg (by simp)]
                rfl
            · rw [if_neg hj]
              refine ⟨fun t k h => by simp at h, fun p e h => ?_⟩
              simp at h
              obtain ⟨rfl, rfl⟩ := h
              have hle := (rowN_le n l (i + 1) (o + 1) (by omega) ts j hr).2
              rw [runA_none (List.getElem?_eq_none (by omega)), if_pos (by simp), show l.length = j by omega]
        · rw [if_neg ho4, if_pos (by simp; omega)]
          refine ⟨fun t k h => by simp at h, fun p e h => ?_⟩
          simp at h
          obtain ⟨rfl, rfl⟩ := h
          rfl
      · rw [if_neg (show ¬ l[i]? = some 40 by rw [hc]; simpa using h40), if_neg h40, if_neg h41]
        cases hs : sgn c with
        | true =>
          have hgt : i < skipTo sgn l i := by
            have := skipTo_yes sgn l i hlt (by rw [← hci]; exact hs)
            have h2 := skipTo_ge sgn l (i + 1)
            omega
          rw [if_neg (show ¬ skipTo sgn l i = i by omega), if_pos rfl]
          refine ⟨fun t k h => ?_, fun p e h => by simp at h⟩
          simp at h
          obtain ⟨rfl, rfl⟩ := h
          rfl
        | false =>
          rw [if_pos (skipTo_no sgn l i hlt (by rw [← hci]; exact hs)), if_neg (by simp)]
          refine ⟨fun t k h => by simp at h, fun p e h => ?_⟩
          simp at h
          obtain ⟨rfl, rfl⟩ := h
          rfl

/-- what the document's Parse comes to -/
theorem run_parse (l : List UInt8) (h : l.length ≤ 262144) : (∃ ts, parseT l = (ts, 0, 0) ∧ runP (l.length + 1) l 0 [([], 0)] = .ok ts) ∨ ∃ p e, e ≠ 0 ∧ parseT l = ([], p, e) ∧ runP (l.length + 1) l 0 [([], 0)] = .bad p e := by
  have hf : runP (l.length + 1) l 0 [([], 0)] = runA l 0 [([], 0)] := by unfold runA; rfl
  rw [hf]
  unfold parseT
  rw [if_neg (by omega)]
  obtain ⟨r1, r2⟩ := (run_rows (2 * l.length + 2) l 0 0 [] 0 [] (by omega) rfl (by omega)).1 (by omega)
  have hbc := bad_codes (2 * l.length + 2) l 0 0
  cases hr : rowN (2 * l.length + 2) l 0 0 with
  | bad p e =>
    right
    refine ⟨p, e, ?_, rfl, r2 _ _ hr⟩
    rcases hbc.1 p e hr with rfl | rfl <;> decide
  | ok q =>
    obtain ⟨ts, j⟩ := q
    obtain ⟨g1, g2⟩ := r1 _ _ hr
    dsimp only
    rw [g1]
    by_cases hj : j < l.length
    · rw [if_pos hj]
      rcases g2 with g2 | g2
      · rw [List.getElem?_eq_none_iff] at g2; omega
      · right
        refine ⟨j, 20, by decide, rfl, ?_⟩
        rw [runA_some g2, if_neg (by decide), if_neg (by decide), if_pos rfl, if_pos (by simp)]
    · rw [if_neg hj]
      left
      refine ⟨ts, rfl, ?_⟩
      rw [runA_none (List.getElem?_eq_none (by omega)), if_neg (by simp)]
      simp

end Go.Proofs.YtocaickbfeaiaaaDoor
