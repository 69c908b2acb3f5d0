/-
 THE PLAIN LAWS of the parser: texts behind one another, in brackets; how deep. No program here.
-/
import Derived.Test.YtmmgjaheffbpaaaGreatDoorLexSpecQ
import Derived.Test.YtmmgjaheffbpaaaGreatDoorLexParseQ
namespace Go.Proofs.YtmmgjaheffbpaaaGreatDoor
set_option linter.unusedSimpArgs false
set_option linter.unusedVariables false
set_option linter.unusedSectionVars false
section
theorem bad_codes (n : Nat) : ∀ (l : List UInt8) (i o : Nat),
    (∀ p e, rowN n l i o = .bad p e → e = 3 ∨ e = 20) ∧ (∀ p e, treeN n l i o = .bad p e → e = 3 ∨ e = 20) := by
 induction n with
 | zero => intro l i o; simp [rowN, treeN]
 | succ n ih =>
  intro l i o
  constructor
  · intro p e h
    rw [rowN] at h
    split at h
    · cases h
    · split at h
      · cases h
      · split at h
        · rename_i hb; cases h; exact (ih _ _ _).2 _ _ hb
        · split at h
          · rename_i hb; cases h; exact (ih _ _ _).1 _ _ hb
          · cases h
  · intro p e h
    rw [treeN] at h
    split at h
    · split at h
      · split at h
        · rename_i hb; cases h; exact (ih _ _ _).1 _ _ hb
        · split at h
          · cases h
          · cases h; exact .inr rfl
      · cases h; exact .inl rfl
    · split at h
      · cases h; exact .inr rfl
      · cases h
theorem fuel (n : Nat) : ∀ (m : Nat) (l : List UInt8) (i o : Nat),
    (i ≤ l.length → 2 * (l.length - i) + 2 ≤ n → 2 * (l.length - i) + 2 ≤ m → rowN n l i o = rowN m l i o) ∧
    (i < l.length → 2 * (l.length - i) + 1 ≤ n → 2 * (l.length - i) + 1 ≤ m → treeN n l i o = treeN m l i o) := by
 induction n with
 | zero => intro m l i o; exact ⟨fun _ h => by omega, fun _ h => by omega⟩
 | succ n ih =>
  intro m l i o
  constructor
  · intro hi hn hm
    obtain ⟨m, rfl⟩ : ∃ k, m = k + 1 := ⟨m - 1, by omega⟩
    have h1 := skipTo_ge blk l i
    rw [rowN, rowN]
    cases hc : l[skipTo blk l i]? with
    | none => rfl
    | some c =>
     have hlt := (List.getElem?_eq_some_iff.1 hc).1
     dsimp only
     by_cases h41 : c = 41
     · rw [if_pos h41, if_pos h41]
     · rw [if_neg h41, if_neg h41, (ih m l _ o).2 hlt (by omega) (by omega)]
       cases ht : treeN m l (skipTo blk l i) o with
       | bad p e => rfl
       | ok x =>
        obtain ⟨t, k⟩ := x
        have h2 := treeN_lt m l _ o (by omega) t k ht
        have h3 := (treeN_le m l _ o (by omega) t k ht).2
        dsimp only
        rw [(ih m l k o).1 h3 (by omega) (by omega)]
  · intro hi hn hm
    obtain ⟨m, rfl⟩ : ∃ k, m = k + 1 := ⟨m - 1, by omega⟩
    rw [treeN, treeN]
    by_cases h40 : l[i]? = some 40
    · rw [if_pos h40, if_pos h40]
      by_cases ho : o < 400
      · rw [if_pos ho, if_pos ho, (ih m l (i + 1) (o + 1)).1 (by omega) (by omega) (by omega)]
      · rw [if_neg ho, if_neg ho]
    · rw [if_neg h40, if_neg h40]
theorem row_count (n : Nat) : ∀ (l : List UInt8) (i o : Nat), i ≤ l.length → ∀ ts j, rowN n l i o = .ok (ts, j) → ts.length + i ≤ j := by
 induction n with
 | zero => intro l i o hi ts j h; simp only [rowN, Res.ok.injEq, Prod.mk.injEq] at h; obtain ⟨rfl, rfl⟩ := h; simp
 | succ n ih =>
  intro l i o hi ts j h
  have h1 := skipTo_ge blk l i
  have h2 := skipTo_le blk l i hi
  rw [rowN] at h
  split at h
  · simp only [Res.ok.injEq, Prod.mk.injEq] at h; obtain ⟨rfl, rfl⟩ := h; simpa using h1
  · split at h
    · simp only [Res.ok.injEq, Prod.mk.injEq] at h; obtain ⟨rfl, rfl⟩ := h; simpa using h1
    · split at h
      · cases h
      · rename_i t k ht
        have h3 := treeN_lt n l _ o h2 t k ht
        have h4 := (treeN_le n l _ o h2 t k ht).2
        split at h
        · cases h
        · rename_i ts' m hr
          have h5 := ih l k o h4 ts' m hr
          simp only [Res.ok.injEq, Prod.mk.injEq] at h
          obtain ⟨rfl, rfl⟩ := h
          simp
          omega
mutual
def shTr (k : Nat) : Tr → Tr
 | .mk x ks r a => .mk x (shTrs k ks) r (a + k)
def shTrs (k : Nat) : List Tr → List Tr
 | [] => []
 | t :: l => shTr k t :: shTrs k l
end
def shRow (k : Nat) : Res (List Tr × Nat) → Res (List Tr × Nat)
 | .ok (ts, j) => .ok (shTrs k ts, j + k)
 | .bad p e => .bad (p + k) e
def shTree (k : Nat) : Res (Tr × Nat) → Res (Tr × Nat)
 | .ok (t, j) => .ok (shTr k t, j + k)
 | .bad p e => .bad (p + k) e
theorem drop_shift (q l : List UInt8) (i : Nat) : (q ++ l).drop (i + q.length) = l.drop i := by
 rw [Nat.add_comm, ← List.drop_drop, List.drop_left]
theorem skip_shift (p : UInt8 → Bool) (q l : List UInt8) (i : Nat) : skipTo p (q ++ l) (i + q.length) = skipTo p l i + q.length := by
 unfold skipTo; rw [drop_shift]; omega
theorem get_shift (q l : List UInt8) (i : Nat) : (q ++ l)[i + q.length]? = l[i]? := by
 rw [List.getElem?_append_right (by omega), Nat.add_sub_cancel]
theorem shift (n : Nat) (q : List UInt8) : ∀ (l : List UInt8) (i o : Nat),
    rowN n (q ++ l) (i + q.length) o = shRow q.length (rowN n l i o) ∧ treeN n (q ++ l) (i + q.length) o = shTree q.length (treeN n l i o) := by
 induction n with
 | zero => intro l i o; simp [rowN, treeN, shRow, shTree, shTrs]
 | succ n ih =>
  intro l i o
  constructor
  · rw [rowN, rowN, skip_shift, get_shift]
    cases hc : l[skipTo blk l i]? with
    | none => simp [shRow, shTrs]
    | some c =>
     dsimp only
     by_cases h41 : c = 41
     · rw [if_pos h41, if_pos h41]; simp [shRow, shTrs]
     · rw [if_neg h41, if_neg h41, (ih l _ o).2]
       cases ht : treeN n l (skipTo blk l i) o with
       | bad p e => simp [shTree, shRow]
       | ok x =>
        obtain ⟨t, k⟩ := x
        simp only [shTree]
        rw [(ih l k o).1]
        cases hr : rowN n l k o with
        | bad p e => simp [shRow]
        | ok x => simp [shRow, shTrs]
  · rw [treeN, treeN, get_shift, skip_shift, drop_shift]
    by_cases h40 : l[i]? = some 40
    · rw [if_pos h40, if_pos h40]
      by_cases ho : o < 400
      · rw [if_pos ho, if_pos ho, show i + q.length + 1 = (i + 1) + q.length from by omega, (ih l (i + 1) (o + 1)).1]
        cases hr : rowN n l (i + 1) (o + 1) with
        | bad p e => simp [shRow, shTree]
        | ok x =>
         obtain ⟨ts, j⟩ := x
         simp only [shRow]
         by_cases hj : j < l.length
         · rw [if_pos hj, if_pos (by simp; omega)]
           simp [shTree, shTr]
           omega
         · rw [if_neg hj, if_neg (by simp; omega)]
           simp [shTree]
      · rw [if_neg ho, if_neg ho]; simp [shTree]
    · rw [if_neg h40, if_neg h40]
      by_cases hs : skipTo sgn l i = i
      · rw [if_pos hs, if_pos (by omega)]; simp [shTree]
      · rw [if_neg hs, if_neg (by omega)]; simp [shTree, shTr, shTrs]
theorem tw_stop (p : UInt8 → Bool) (x : List UInt8) (c : UInt8) (b : List UInt8) (h : p c = false) : (x ++ c :: b).takeWhile p = x.takeWhile p := by
 induction x with
 | nil => simp [List.takeWhile_cons, h]
 | cons y x ih =>
  rw [List.cons_append, List.takeWhile_cons, List.takeWhile_cons, ih]
theorem tw_short (p : UInt8 → Bool) (x : List UInt8) (z : List UInt8) (h : (x.takeWhile p).length < x.length) : (x ++ z).takeWhile p = x.takeWhile p := by
 induction x with
 | nil => simp at h
 | cons y x ih =>
  rw [List.cons_append, List.takeWhile_cons, List.takeWhile_cons]
  cases hp : p y with
  | false => simp
  | true =>
   simp only [if_true]
   rw [List.takeWhile_cons, hp] at h
   simp at h
   rw [ih h]
theorem tw_all (p : UInt8 → Bool) (x : List UInt8) (z : List UInt8) (h : x.length ≤ (x.takeWhile p).length) : (x ++ z).takeWhile p = x ++ z.takeWhile p := by
 induction x with
 | nil => simp
 | cons y x ih =>
  rw [List.takeWhile_cons] at h
  cases hp : p y with
  | false => rw [hp] at h; simp at h
  | true =>
   rw [hp] at h
   simp at h
   rw [List.cons_append, List.takeWhile_cons, hp, if_pos rfl, ih h, List.cons_append]
theorem drop_app (a z : List UInt8) (i : Nat) (h : i ≤ a.length) : (a ++ z).drop i = a.drop i ++ z := by
 rw [List.drop_append, show i - a.length = 0 from by omega, List.drop_zero]
theorem skip_stop (p : UInt8 → Bool) (a : List UInt8) (c : UInt8) (b : List UInt8) (i : Nat) (hi : i ≤ a.length) (h : p c = false) : skipTo p (a ++ c :: b) i = skipTo p a i := by
 unfold skipTo
 rw [drop_app a _ i hi, tw_stop p _ c b h]
theorem skip_short (p : UInt8 → Bool) (a z : List UInt8) (i : Nat) (hi : i ≤ a.length) (h : skipTo p a i < a.length) : skipTo p (a ++ z) i = skipTo p a i := by
 unfold skipTo at *
 rw [drop_app a _ i hi, tw_short]
 simp
 omega
theorem skip_all (p : UInt8 → Bool) (a z : List UInt8) (i : Nat) (hi : i ≤ a.length) (h : a.length ≤ skipTo p a i) : skipTo p (a ++ z) i = skipTo p (a ++ z) a.length := by
 unfold skipTo at *
 rw [drop_app a _ i hi, tw_all, drop_app a _ a.length (Nat.le_refl _)]
 · simp; omega
 · simp; omega
theorem get_app (a z : List UInt8) (i : Nat) (h : i < a.length) : (a ++ z)[i]? = a[i]? := List.getElem?_append_left h
theorem suffix (n : Nat) (a : List UInt8) (c : UInt8) (b : List UInt8) (hc : sgn c = false) : ∀ (i o : Nat),
    (i < a.length → ∀ t j, treeN n a i o = .ok (t, j) → treeN n (a ++ c :: b) i o = .ok (t, j)) ∧
    (i < a.length → ∀ p, treeN n a i o = .bad p 3 → treeN n (a ++ c :: b) i o = .bad p 3) ∧
    (i ≤ a.length → ∀ ts j, rowN n a i o = .ok (ts, j) → j < a.length → rowN n (a ++ c :: b) i o = .ok (ts, j)) ∧
    (i ≤ a.length → ∀ p, rowN n a i o = .bad p 3 → rowN n (a ++ c :: b) i o = .bad p 3) ∧
    (i ≤ a.length → 0 < n → ∀ ts j, rowN n a i o = .ok (ts, j) → ts.length < n → a.length ≤ j → ∃ k, n = ts.length + k ∧ 0 < k ∧ rowN n (a ++ c :: b) i o = pre ts (rowN k (a ++ c :: b) a.length o)) := by
 induction n with
 | zero =>
  intro i o
  refine ⟨fun _ t j h => by simp [treeN] at h, fun _ p h => by simp [treeN] at h, fun hi ts j h hj => ?_, fun _ p h => by simp [rowN] at h, fun _ h => by omega⟩
  simp only [rowN, Res.ok.injEq, Prod.mk.injEq] at h ⊢
  exact h
 | succ n ih =>
  intro i o
  have tree_ok : i < a.length → ∀ t j, treeN (n + 1) a i o = .ok (t, j) → treeN (n + 1) (a ++ c :: b) i o = .ok (t, j) := by
   intro hi t j h
   rw [treeN] at h ⊢
   rw [get_app a _ i hi, skip_stop sgn a c b i (by omega) hc, drop_app a _ i (by omega), tw_stop sgn _ c b hc]
   split at h
   · rename_i h40
     rw [if_pos h40]
     split at h
     · rename_i ho
       rw [if_pos ho]
       split at h
       · cases h
       · rename_i ts j' hr
         split at h
         · rename_i hj
           rw [(ih (i + 1) (o + 1)).2.2.1 (by omega) ts j' hr hj]
           dsimp only
           rw [if_pos (by simp; omega)]
           exact h
         · cases h
     · cases h
   · rename_i h40
     rw [if_neg h40]
     exact h
  have tree_bad : i < a.length → ∀ p, treeN (n + 1) a i o = .bad p 3 → treeN (n + 1) (a ++ c :: b) i o = .bad p 3 := by
   intro hi p h
   rw [treeN] at h ⊢
   rw [get_app a _ i hi]
   split at h
   · rename_i h40
     rw [if_pos h40]
     split at h
     · rename_i ho
       rw [if_pos ho]
       split at h
       · rename_i hr
         rw [(ih (i + 1) (o + 1)).2.2.2.1 (by omega) p (by rw [hr]; cases h; rfl)]
       · split at h
         · cases h
         · cases h
     · rename_i ho
       rw [if_neg ho]; exact h
   · split at h
     · cases h
     · cases h
  refine ⟨tree_ok, tree_bad, ?_, ?_, ?_⟩
  · intro hi ts j h hj
    have h2 := skipTo_le blk a i hi
    rw [rowN] at h ⊢
    rcases Nat.lt_or_ge (skipTo blk a i) a.length with hs | hs
    · rw [skip_short blk a _ i hi hs, get_app a _ _ hs]
      rw [List.getElem?_eq_getElem hs] at h ⊢
      dsimp only at h ⊢
      split at h
      · rename_i h41; rw [if_pos h41]; exact h
      · rename_i h41
        rw [if_neg h41]
        split at h
        · cases h
        · rename_i t k ht
          rw [(ih _ o).1 hs t k ht]
          dsimp only
          split at h
          · cases h
          · rename_i ts' m hr
            have h4 := (treeN_le n a _ o h2 t k ht).2
            simp only [Res.ok.injEq, Prod.mk.injEq] at h
            obtain ⟨rfl, rfl⟩ := h
            rw [(ih k o).2.2.1 h4 ts' m hr hj]
    · rw [List.getElem?_eq_none (by omega)] at h
      simp only [Res.ok.injEq, Prod.mk.injEq] at h
      omega
  · intro hi p h
    have h2 := skipTo_le blk a i hi
    rw [rowN] at h ⊢
    rcases Nat.lt_or_ge (skipTo blk a i) a.length with hs | hs
    · rw [skip_short blk a _ i hi hs, get_app a _ _ hs]
      rw [List.getElem?_eq_getElem hs] at h ⊢
      dsimp only at h ⊢
      split at h
      · cases h
      · rename_i h41
        rw [if_neg h41]
        split at h
        · rename_i ht
          rw [(ih _ o).2.1 hs p (by rw [ht]; cases h; rfl)]
        · rename_i t k ht
          rw [(ih _ o).1 hs t k ht]
          dsimp only
          have h4 := (treeN_le n a _ o h2 t k ht).2
          split at h
          · rename_i hr
            rw [(ih k o).2.2.2.1 h4 p (by rw [hr]; exact h)]
          · cases h
    · rw [List.getElem?_eq_none (by omega)] at h
      cases h
  · intro hi _ ts j h hts hj
    have h2 := skipTo_le blk a i hi
    rcases Nat.lt_or_ge (skipTo blk a i) a.length with hs | hs
    · rw [rowN] at h
      rw [List.getElem?_eq_getElem hs] at h
      dsimp only at h
      split at h
      · simp only [Res.ok.injEq, Prod.mk.injEq] at h; omega
      · rename_i h41
        split at h
        · cases h
        · rename_i t k ht
          have h4 := (treeN_le n a _ o h2 t k ht).2
          split at h
          · cases h
          · rename_i ts' m hr
            simp only [Res.ok.injEq, Prod.mk.injEq] at h
            obtain ⟨rfl, rfl⟩ := h
            simp only [List.length_cons] at hts ⊢
            obtain ⟨k', e, hk', hrow⟩ := (ih k o).2.2.2.2 h4 (by omega) ts' m hr (by omega) hj
            refine ⟨k', by omega, hk', ?_⟩
            rw [rowN, skip_short blk a _ i hi hs, get_app a _ _ hs, List.getElem?_eq_getElem hs]
            dsimp only
            rw [if_neg h41, (ih _ o).1 hs t k ht]
            dsimp only
            rw [hrow]
            cases rowN k' (a ++ c :: b) a.length o with
            | bad p e => rfl
            | ok x => simp [pre]
    · rw [rowN, List.getElem?_eq_none (by omega)] at h
      simp only [Res.ok.injEq, Prod.mk.injEq] at h
      obtain ⟨rfl, _⟩ := h
      refine ⟨n + 1, by simp, by omega, ?_⟩
      rw [pre_nil, rowN, rowN, skip_all blk a _ i hi hs]
theorem deepN (n : Nat) : ∀ (l : List UInt8) (i o : Nat), o ≤ 400 →
    (∀ ts j, rowN n l i o = .ok (ts, j) → deepT ts + o ≤ 400 ∧ ∀ o', o' ≤ 400 → (deepT ts + o' ≤ 400 → rowN n l i o' = .ok (ts, j)) ∧ (400 < deepT ts + o' → ∃ p, rowN n l i o' = .bad p 3)) ∧
    (∀ t j, treeN n l i o = .ok (t, j) → deepT [t] + o ≤ 400 ∧ ∀ o', o' ≤ 400 → (deepT [t] + o' ≤ 400 → treeN n l i o' = .ok (t, j)) ∧ (400 < deepT [t] + o' → ∃ p, treeN n l i o' = .bad p 3)) := by
 induction n with
 | zero =>
  intro l i o ho
  refine ⟨fun ts j h => ?_, fun t j h => by simp [treeN] at h⟩
  simp only [rowN, Res.ok.injEq, Prod.mk.injEq] at h
  obtain ⟨rfl, rfl⟩ := h
  exact ⟨by simpa [deepT] using ho, fun o' ho' => ⟨fun _ => by simp [rowN], fun h => by simp [deepT] at h; omega⟩⟩
 | succ n ih =>
  intro l i o ho
  constructor
  · intro ts j h
    rw [rowN] at h
    split at h
    · rename_i hn
      simp only [Res.ok.injEq, Prod.mk.injEq] at h
      obtain ⟨rfl, rfl⟩ := h
      exact ⟨by simpa [deepT] using ho, fun o' ho' => ⟨fun _ => by rw [rowN, hn], fun h => by simp [deepT] at h; omega⟩⟩
    · rename_i c hn
      split at h
      · rename_i h41
        simp only [Res.ok.injEq, Prod.mk.injEq] at h
        obtain ⟨rfl, rfl⟩ := h
        exact ⟨by simpa [deepT] using ho, fun o' ho' => ⟨fun _ => by rw [rowN, hn]; simp [h41], fun h => by simp [deepT] at h; omega⟩⟩
      · rename_i h41
        split at h
        · cases h
        · rename_i t k ht
          split at h
          · cases h
          · rename_i ts' m hr
            simp only [Res.ok.injEq, Prod.mk.injEq] at h
            obtain ⟨rfl, rfl⟩ := h
            obtain ⟨d1, e1⟩ := (ih l _ o ho).2 t k ht
            obtain ⟨d2, e2⟩ := (ih l k o ho).1 ts' m hr
            have hd : deepT (t :: ts') = max (deepT [t]) (deepT ts') := by
             obtain ⟨x, ks, r, a⟩ := t
             simp only [deepT]
             cases r <;> simp
            rw [hd]
            refine ⟨by omega, fun o' ho' => ⟨fun hle => ?_, fun hgt => ?_⟩⟩
            · rw [rowN, hn]
              dsimp only
              rw [if_neg h41, (e1 o' ho').1 (by omega)]
              dsimp only
              rw [(e2 o' ho').1 (by omega)]
            · rw [rowN, hn]
              dsimp only
              rw [if_neg h41]
              rcases Nat.lt_or_ge 400 (deepT [t] + o') with h | h
              · obtain ⟨p, hp⟩ := (e1 o' ho').2 h
                exact ⟨p, by rw [hp]⟩
              · rw [(e1 o' ho').1 h]
                obtain ⟨p, hp⟩ := (e2 o' ho').2 (by omega)
                exact ⟨p, by dsimp only; rw [hp]⟩
  · intro t j h
    rw [treeN] at h
    split at h
    · rename_i h40
      split at h
      · rename_i ho1
        split at h
        · cases h
        · rename_i ts j' hr
          obtain ⟨d1, e1⟩ := (ih l (i + 1) (o + 1) (by omega)).1 ts j' hr
          split at h
          · rename_i hj
            simp only [Res.ok.injEq, Prod.mk.injEq] at h
            obtain ⟨rfl, rfl⟩ := h
            have hd : deepT [.mk [] ts true (i : Int)] = 1 + deepT ts := by simp [deepT]
            rw [hd]
            refine ⟨by omega, fun o' ho' => ⟨fun hle => ?_, fun hgt => ?_⟩⟩
            · rw [treeN, if_pos h40, if_pos (by omega), (e1 (o' + 1) (by omega)).1 (by omega)]
              dsimp only
              rw [if_pos hj]
            · rw [treeN, if_pos h40]
              rcases Nat.lt_or_ge o' 400 with h | h
              · rw [if_pos h]
                obtain ⟨p, hp⟩ := (e1 (o' + 1) (by omega)).2 (by omega)
                exact ⟨p, by rw [hp]⟩
              · rw [if_neg (by omega)]
                exact ⟨i, rfl⟩
          · cases h
      · cases h
    · rename_i h40
      split at h
      · cases h
      · rename_i hs
        simp only [Res.ok.injEq, Prod.mk.injEq] at h
        obtain ⟨rfl, rfl⟩ := h
        have hd : deepT [.mk ((l.drop i).takeWhile sgn) [] false (i : Int)] = 0 := by simp [deepT]
        rw [hd]
        refine ⟨by omega, fun o' ho' => ⟨fun _ => by rw [treeN, if_neg h40, if_neg hs], fun h => by omega⟩⟩
theorem bad_le (n : Nat) : ∀ (l : List UInt8) (i o : Nat), i ≤ l.length → (∀ p e, rowN n l i o = .bad p e → p ≤ l.length) ∧ (∀ p e, treeN n l i o = .bad p e → p ≤ l.length) := by
 induction n with
 | zero => intro l i o hi; exact ⟨fun p e h => by simp [rowN] at h, fun p e h => by simp [treeN] at h; omega⟩
 | succ n ih =>
  intro l i o hi
  have h2 := skipTo_le blk l i hi
  constructor
  · intro p e h
    rw [rowN] at h
    split at h
    · cases h
    · split at h
      · cases h
      · split at h
        · rename_i hb; cases h; exact (ih _ _ _ h2).2 _ _ hb
        · rename_i t k ht
          have h4 := (treeN_le n l _ o h2 t k ht).2
          split at h
          · rename_i hb; cases h; exact (ih _ _ _ h4).1 _ _ hb
          · cases h
  · intro p e h
    rw [treeN] at h
    split at h
    · rename_i hc
      have hlt : i < l.length := (List.getElem?_eq_some_iff.1 hc).1
      split at h
      · split at h
        · rename_i hb; cases h; exact (ih _ _ _ (by omega)).1 _ _ hb
        · rename_i ts j hr
          have := (rowN_le n l (i + 1) (o + 1) (by omega) ts j hr).2
          split at h
          · cases h
          · cases h; exact this
      · cases h; exact hi
    · split at h
      · cases h; exact hi
      · cases h
theorem shape_sh (k : Nat) : ∀ (l m : List Tr), shapeT l m = true → shapeT (shTrs k l) m = true
 | [], [], _ => by simp [shTrs, shapeT]
 | .mk x ks r a :: l, .mk y ks' r' a' :: m, h => by
  simp only [shapeT, Bool.and_eq_true] at h
  simp only [shTrs, shTr, shapeT, Bool.and_eq_true]
  exact ⟨⟨h.1.1, shape_sh k ks ks' h.1.2⟩, shape_sh k l m h.2⟩
 | [], _ :: _, h => by simp [shapeT] at h
 | _ :: _, [], h => by simp [shapeT] at h
theorem shape_refl : ∀ (l : List Tr), shapeT l l = true
 | [] => by simp [shapeT]
 | .mk x ks r a :: l => by simp [shapeT, shape_refl ks, shape_refl l]
theorem parse_ok {a : List UInt8} (h : (parseT a).2.2 = 0) : a.length ≤ 262144 ∧ ∃ j, rowN (2 * a.length + 2) a 0 0 = .ok ((parseT a).1, j) ∧ a.length ≤ j ∧ (parseT a).2.1 = 0 := by
 unfold parseT at h ⊢
 by_cases hl : 262144 < a.length
 · rw [if_pos hl] at h; simp at h
 · rw [if_neg hl] at h ⊢
   refine ⟨by omega, ?_⟩
   cases hr : rowN (2 * a.length + 2) a 0 0 with
   | bad p e =>
    rw [hr] at h
    simp only at h
    have := (bad_codes _ a 0 0).1 p e hr
    omega
   | ok x =>
    obtain ⟨ts, j⟩ := x
    rw [hr] at h
    dsimp only at h ⊢
    by_cases hj : j < a.length
    · rw [if_pos hj] at h; simp at h
    · rw [if_neg hj] at h ⊢
      exact ⟨j, rfl, by omega, rfl⟩
theorem blk32 : blk 32 = true := by decide
theorem sgn32 : sgn 32 = false := by decide
theorem sgn41 : sgn 41 = false := by decide
theorem blk41 : blk 41 = false := by decide
theorem blk40 : blk 40 = false := by decide
theorem row_two {a b : List UInt8} (ha : (parseT a).2.2 = 0) (n : Nat) (hn : 2 * (a.length + 1 + b.length) + 2 ≤ n) :
    rowN n (a ++ 32 :: b) 0 0 = pre (parseT a).1 (shRow (a.length + 1) (rowN (2 * b.length + 2) b 0 0)) := by
 obtain ⟨_, j, hr, hj, _⟩ := parse_ok ha
 have hr2 : rowN n a 0 0 = .ok ((parseT a).1, j) := by
  rw [← hr]
  exact (fuel n _ a 0 0).1 (by omega) (by omega) (by omega)
 have hcount := row_count n a 0 0 (by omega) _ j hr2
 have hjl := (rowN_le n a 0 0 (by omega) _ j hr2).2
 obtain ⟨k, e, hk, h⟩ := (suffix n a 32 b sgn32 0 0).2.2.2.2 (by omega) (by omega) _ j hr2 (by omega) hj
 rw [h]
 congr 1
 have hget : (a ++ 32 :: b)[a.length]? = some 32 := by rw [List.getElem?_append_right (Nat.le_refl _)]; simp
 have hskip : skipTo blk (a ++ 32 :: b) a.length = skipTo blk (a ++ 32 :: b) (a.length + 1) := by
  have hl : a.length < (a ++ 32 :: b).length := by simp
  exact (skipTo_yes blk _ _ hl (by rw [List.getElem_append_right (Nat.le_refl _)]; simp [blk32])).symm
 obtain ⟨k, rfl⟩ : ∃ m, k = m + 1 := ⟨k - 1, by omega⟩
 have h1 : rowN (k + 1) (a ++ 32 :: b) a.length 0 = rowN (k + 1) (a ++ 32 :: b) (a.length + 1) 0 := by rw [rowN, rowN, hskip]
 rw [h1]
 have h2 := (shift (k + 1) (a ++ [32]) b 0 0).1
 simp only [List.append_assoc, List.cons_append, List.nil_append, List.length_append, List.length_cons, List.length_nil, Nat.zero_add] at h2
 rw [h2]
 congr 1
 exact (fuel (k + 1) _ b 0 0).1 (by omega) (by omega) (by omega)
theorem two_bad {a b : List UInt8} (ha : (parseT a).2.2 = 0) (hl : a.length + b.length ≤ 5000) (hb : (parseT b).2.2 ≠ 0) :
    (parseT (a ++ [32] ++ b)).1 = [] ∧ (parseT (a ++ [32] ++ b)).2.1 = (parseT b).2.1 + a.length + 1 ∧ (parseT (a ++ [32] ++ b)).2.2 = (parseT b).2.2 := by
 have h := row_two (b := b) ha (2 * (a ++ [32] ++ b).length + 2) (by simp; omega)
 have hlen : (a ++ [32] ++ b).length = a.length + 1 + b.length := by simp; omega
 unfold parseT at hb ⊢
 rw [if_neg (by omega)] at hb
 rw [if_neg (by rw [hlen]; omega)]
 rw [show a ++ [32] ++ b = a ++ 32 :: b from by simp] at h ⊢
 rw [if_neg (by omega : ¬ 262144 < b.length), h]
 have hlen2 : (a ++ 32 :: b).length = a.length + 1 + b.length := by simp; omega
 cases hr : rowN (2 * b.length + 2) b 0 0 with
 | bad p e => simp [shRow, pre]; omega
 | ok x =>
  obtain ⟨ts, j⟩ := x
  rw [hr] at hb
  dsimp only at hb
  by_cases hj : j < b.length
  · simp only [shRow, pre]
    rw [if_pos hj, if_pos (by rw [hlen2]; omega)]
    exact ⟨rfl, by dsimp only; omega, rfl⟩
  · rw [if_neg hj] at hb; simp at hb
theorem in_row {a : List UInt8} (ha : (parseT a).2.2 = 0) (hl : a.length ≤ 5000) :
    deepT (parseT a).1 ≤ 400 ∧ ((deepT (parseT a).1 = 400 ∧ (parseT ([40] ++ a ++ [41])).2.2 = 3) ∨
     (deepT (parseT a).1 < 400 ∧ (parseT ([40] ++ a ++ [41])).2.2 = 0 ∧ ∃ t, (parseT ([40] ++ a ++ [41])).1 = [t] ∧ t.row = true ∧ shapeT t.kids (parseT a).1 = true)) := by
 obtain ⟨_, j, hr, hj, _⟩ := parse_ok ha
 have hjl := (rowN_le _ a 0 0 (by omega) _ j hr).2
 obtain ⟨d0, dd⟩ := (deepN _ a 0 0 (by omega)).1 _ j hr
 obtain ⟨d1, d2⟩ := dd 1 (by omega)
 refine ⟨by omega, ?_⟩
 have hlen : ([40] ++ a ++ [41]).length = a.length + 2 := by simp
 have hpar : ∀ r, rowN (2 * (a.length + 2) + 2) ([40] ++ a ++ [41]) 0 0 = r → parseT ([40] ++ a ++ [41]) = (match r with
     | .bad p e => ([], p, e)
     | .ok (ts, j) => if j < ([40] ++ a ++ [41]).length then ([], j, 20) else (ts, 0, 0)) := by
  intro r h
  unfold parseT
  rw [if_neg (by rw [hlen]; omega), hlen, h]
  rfl
 -- the row within
 have hin : ∀ m, 2 * (a.length + 1) + 2 ≤ m → rowN m ([40] ++ a ++ [41]) 1 1 = shRow 1 (rowN m (a ++ 41 :: []) 0 1) := by
  intro m _
  have := (shift m [40] (a ++ [41]) 0 1).1
  simpa using this
 have hopen : rowN (2 * (a.length + 2) + 2) ([40] ++ a ++ [41]) 0 0 = (match treeN (2 * (a.length + 2) + 1) ([40] ++ a ++ [41]) 0 0 with
     | .bad p e => .bad p e
     | .ok (t, k) => match rowN (2 * (a.length + 2) + 1) ([40] ++ a ++ [41]) k 0 with
      | .bad p e => .bad p e
      | .ok (ts, m) => .ok (t :: ts, m)) := by
  rw [rowN, skipTo_no blk _ 0 (by simp) (by simp [blk40])]
  simp
  rfl
 have hopen2 : treeN (2 * (a.length + 2) + 1) ([40] ++ a ++ [41]) 0 0 = (match rowN (2 * (a.length + 2)) ([40] ++ a ++ [41]) 1 1 with
     | .bad p e => .bad p e
     | .ok (ts, j) => if j < ([40] ++ a ++ [41]).length then .ok (.mk [] ts true 0, j + 1) else .bad j 20) := by
  rw [treeN, if_pos (by simp), if_pos (by omega)]
  rfl
 rcases Nat.lt_or_ge (deepT (parseT a).1) 400 with hd | hd
 · refine .inr ⟨hd, ?_⟩
   have hr2 : rowN (2 * (a.length + 2)) a 0 1 = .ok ((parseT a).1, j) := by
    rw [← d1 (by omega)]
    exact (fuel _ _ a 0 1).1 (by omega) (by omega) (by omega)
   have hcount := row_count _ a 0 1 (by omega) _ j hr2
   obtain ⟨k, e, hk, h⟩ := (suffix (2 * (a.length + 2)) a 41 [] sgn41 0 1).2.2.2.2 (by omega) (by omega) _ j hr2 (by omega) hj
   have hend : rowN k (a ++ [41]) a.length 1 = .ok ([], a.length) := by
    obtain ⟨k, rfl⟩ : ∃ m, k = m + 1 := ⟨k - 1, by omega⟩
    rw [rowN, skipTo_no blk _ _ (by simp) (by simp [blk41])]
    simp
   have hrow : rowN (2 * (a.length + 2)) ([40] ++ a ++ [41]) 1 1 = .ok (shTrs 1 (parseT a).1, a.length + 1) := by
    rw [hin _ (by omega), h, hend]
    simp [pre, shRow]
   have htree : treeN (2 * (a.length + 2) + 1) ([40] ++ a ++ [41]) 0 0 = .ok (.mk [] (shTrs 1 (parseT a).1) true 0, a.length + 2) := by
    rw [hopen2, hrow]
    dsimp only
    rw [if_pos (by rw [hlen]; omega)]
   have hlast : rowN (2 * (a.length + 2) + 1) ([40] ++ a ++ [41]) (a.length + 2) 0 = .ok ([], a.length + 2) := by
    rw [rowN, skipTo_end blk _ _ (by rw [hlen]; omega), List.getElem?_eq_none (by rw [hlen]; omega)]
   have hall := hopen
   rw [htree] at hall
   dsimp only at hall
   rw [hlast] at hall
   rw [hpar _ hall]
   dsimp only
   rw [if_neg (by rw [hlen]; omega)]
   exact ⟨rfl, _, rfl, rfl, by simp only [Tr.kids]; exact shape_sh 1 _ _ (shape_refl _)⟩
 · refine .inl ⟨by omega, ?_⟩
   obtain ⟨p, hp⟩ := d2 (by omega)
   have hr2 : rowN (2 * (a.length + 2)) a 0 1 = .bad p 3 := by
    rw [← hp]
    exact (fuel _ _ a 0 1).1 (by omega) (by omega) (by omega)
   have h := (suffix (2 * (a.length + 2)) a 41 [] sgn41 0 1).2.2.2.1 (by omega) p hr2
   have hrow : rowN (2 * (a.length + 2)) ([40] ++ a ++ [41]) 1 1 = .bad (p + 1) 3 := by
    rw [hin _ (by omega), h]
    rfl
   rw [hpar (.bad (p + 1) 3) (by rw [hopen, hopen2, hrow])]
end
section
def stopT (t : Nat) : List Tr → Nat
 | [] => t
 | .mk _ _ _ a :: _ => a.toNat
def Pl (s : List UInt8) : List Tr → Nat → Nat → Prop
 | [], _, _ => True
 | .mk x k r a :: l, f, t => ∃ p : Nat, a = p ∧ f ≤ p ∧ p < t ∧
     (if r then s[p]? = some 40 ∧ x = [] ∧ stopT t l ≤ t ∧ Pl s k (p + 1) (stopT t l) ∧ Pl s l (p + 1) t
      else k = [] ∧ x ≠ [] ∧ x.length ≤ t - p ∧ (s.drop p).take x.length = x ∧ Pl s l (p + x.length) t)
end
section
theorem Pl.mono {s : List UInt8} : ∀ {l : List Tr} {f f' t : Nat}, Pl s l f t → f' ≤ f → Pl s l f' t
 | [], _, _, _, _, _ => by rw [Pl]; trivial
 | .mk x k r a :: l, f, f', t, h, hf => by
  rw [Pl] at h ⊢
  obtain ⟨p, h1, h2, h3⟩ := h
  exact ⟨p, h1, by omega, h3⟩
theorem skip_word (l : List UInt8) (i : Nat) : skipTo sgn l i = i + ((l.drop i).takeWhile sgn).length := rfl
theorem stop_ge {s : List UInt8} {l : List Tr} {f t j : Nat} (h : Pl s l f t) (hj : j ≤ f) (ht : j ≤ t) : j ≤ stopT t l := by
 cases l with
 | nil => exact ht
 | cons a l =>
  obtain ⟨x, k, r, a⟩ := a
  rw [Pl] at h
  obtain ⟨p, rfl, h2, _⟩ := h
  simp only [stopT, Int.toNat_natCast]
  omega
theorem stop_le {s : List UInt8} {l : List Tr} {f t : Nat} (h : Pl s l f t) : stopT t l ≤ t := by
 cases l with
 | nil => exact Nat.le_refl _
 | cons a l =>
  obtain ⟨x, k, r, a⟩ := a
  rw [Pl] at h
  obtain ⟨p, rfl, h2, h3, _⟩ := h
  simp only [stopT, Int.toNat_natCast]
  omega
theorem placed (n : Nat) : ∀ (l : List UInt8) (i o : Nat), i ≤ l.length →
    (∀ ts j, rowN n l i o = .ok (ts, j) → ∀ t, j ≤ t → t ≤ l.length → Pl l ts i t) ∧
    (∀ a j, treeN n l i o = .ok (a, j) → ∀ t us, j ≤ t → t ≤ l.length → Pl l us j t → Pl l (a :: us) i t) := by
 induction n with
 | zero =>
  intro l i o hi
  refine ⟨fun ts j h t _ _ => ?_, fun a j h => by simp [treeN] at h⟩
  simp only [rowN, Res.ok.injEq, Prod.mk.injEq] at h
  rw [← h.1, Pl]; trivial
 | succ n ih =>
  intro l i o hi
  constructor
  · intro ts j h t hj ht
    have h1 := skipTo_ge blk l i
    have h2 := skipTo_le blk l i hi
    rw [rowN] at h
    split at h
    · simp only [Res.ok.injEq, Prod.mk.injEq] at h
      rw [← h.1, Pl]; trivial
    · split at h
      · simp only [Res.ok.injEq, Prod.mk.injEq] at h
        rw [← h.1, Pl]; trivial
      · split at h
        · cases h
        · rename_i a k hk
          have h3 := treeN_le n l _ o h2 a k hk
          split at h
          · cases h
          · rename_i us m hm
            have h4 := rowN_le n l k o h3.2 us m hm
            simp only [Res.ok.injEq, Prod.mk.injEq] at h
            obtain ⟨rfl, rfl⟩ := h
            exact ((ih l _ o h2).2 a k hk t us (by omega) ht ((ih l k o h3.2).1 us m hm t hj ht)).mono h1
  · intro a j h t us hj ht hus
    rw [treeN] at h
    split at h
    · rename_i hc
      have hlt : i < l.length := (List.getElem?_eq_some_iff.1 hc).1
      split at h
      · split at h
        · cases h
        · rename_i ts k hk
          have h3 := rowN_le n l (i + 1) (o + 1) (by omega) ts k hk
          split at h
          · simp only [Res.ok.injEq, Prod.mk.injEq] at h
            obtain ⟨rfl, rfl⟩ := h
            rw [Pl]
            refine ⟨i, rfl, Nat.le_refl _, by omega, ?_⟩
            rw [if_pos rfl]
            exact ⟨hc, rfl, stop_le hus, (ih l (i + 1) (o + 1) (by omega)).1 ts k hk _ (stop_ge hus (by omega) (by omega)) (by have := stop_le hus; omega), hus.mono (by omega)⟩
          · cases h
      · cases h
    · split at h
      · cases h
      · rename_i hne
        simp only [Res.ok.injEq, Prod.mk.injEq] at h
        obtain ⟨rfl, rfl⟩ := h
        have hx : ((l.drop i).takeWhile sgn).length ≠ 0 := fun e => hne (by rw [skip_word, e]; rfl)
        rw [skip_word] at hj hus
        rw [Pl]
        refine ⟨i, rfl, Nat.le_refl _, by omega, ?_⟩
        rw [if_neg (by simp)]
        exact ⟨rfl, fun e => hx (by rw [e]; rfl), by omega, takeWhile_take sgn _, hus⟩
def Wf : Nat → List Tr → Prop
 | _, [] => True
 | o, .mk x k r _ :: l => (if r then x = [] ∧ o < 400 ∧ Wf (o + 1) k else k = [] ∧ x ≠ [] ∧ x.all sgn = true) ∧ Wf o l
theorem wf_of (n : Nat) : ∀ (l : List UInt8) (i o : Nat),
    (∀ ts j, rowN n l i o = .ok (ts, j) → Wf o ts) ∧ (∀ a j, treeN n l i o = .ok (a, j) → Wf o [a]) := by
 induction n with
 | zero =>
  intro l i o
  refine ⟨fun ts j h => ?_, fun a j h => by simp [treeN] at h⟩
  simp only [rowN, Res.ok.injEq, Prod.mk.injEq] at h
  rw [← h.1, Wf]; trivial
 | succ n ih =>
  intro l i o
  constructor
  · intro ts j h
    rw [rowN] at h
    split at h
    · simp only [Res.ok.injEq, Prod.mk.injEq] at h
      rw [← h.1, Wf]; trivial
    · split at h
      · simp only [Res.ok.injEq, Prod.mk.injEq] at h
        rw [← h.1, Wf]; trivial
      · split at h
        · cases h
        · rename_i a k hk
          split at h
          · cases h
          · rename_i us m hm
            simp only [Res.ok.injEq, Prod.mk.injEq] at h
            obtain ⟨rfl, rfl⟩ := h
            have h1 := (ih l (skipTo blk l i) o).2 a k hk
            have h2 := (ih l k o).1 us m hm
            obtain ⟨x, ks, r, p⟩ := a
            rw [Wf] at h1 ⊢
            exact ⟨h1.1, h2⟩
  · intro a j h
    rw [treeN] at h
    split at h
    · split at h
      · rename_i ho
        split at h
        · cases h
        · rename_i ts k hk
          split at h
          · simp only [Res.ok.injEq, Prod.mk.injEq] at h
            obtain ⟨rfl, rfl⟩ := h
            rw [Wf, if_pos rfl]
            exact ⟨⟨rfl, ho, (ih l (i + 1) (o + 1)).1 ts k hk⟩, by rw [Wf]; trivial⟩
          · cases h
      · cases h
    · split at h
      · cases h
      · rename_i hne
        simp only [Res.ok.injEq, Prod.mk.injEq] at h
        obtain ⟨rfl, rfl⟩ := h
        have hx : ((l.drop i).takeWhile sgn).length ≠ 0 := fun e => hne (by rw [skip_word, e]; rfl)
        rw [Wf, if_neg (by simp)]
        exact ⟨⟨rfl, fun e => hx (by rw [e]; rfl), List.all_takeWhile⟩, by rw [Wf]; trivial⟩
theorem text_len (n : Nat) : ∀ (l : List UInt8) (i o : Nat), i ≤ l.length →
    (∀ ts j, rowN n l i o = .ok (ts, j) → (textR false ts).length ≤ 2 * (j - i)) ∧ (∀ a j, treeN n l i o = .ok (a, j) → (textI a).length + 1 ≤ 2 * (j - i)) := by
 induction n with
 | zero =>
  intro l i o hi
  refine ⟨fun ts j h => ?_, fun a j h => by simp [treeN] at h⟩
  simp only [rowN, Res.ok.injEq, Prod.mk.injEq] at h
  rw [← h.1, textR]; simp
 | succ n ih =>
  intro l i o hi
  constructor
  · intro ts j h
    have h1 := skipTo_ge blk l i
    have h2 := skipTo_le blk l i hi
    rw [rowN] at h
    split at h
    · simp only [Res.ok.injEq, Prod.mk.injEq] at h
      rw [← h.1, textR]; simp
    · split at h
      · simp only [Res.ok.injEq, Prod.mk.injEq] at h
        rw [← h.1, textR]; simp
      · split at h
        · cases h
        · rename_i a k hk
          have h3 := treeN_le n l _ o h2 a k hk
          split at h
          · cases h
          · rename_i us m hm
            have h4 := rowN_le n l k o h3.2 us m hm
            simp only [Res.ok.injEq, Prod.mk.injEq] at h
            obtain ⟨rfl, rfl⟩ := h
            have g1 := (ih l _ o h2).2 a k hk
            have g2 := (ih l k o h3.2).1 us m hm
            rw [textR]
            simp
            omega
  · intro a j h
    rw [treeN] at h
    split at h
    · rename_i hc
      have hlt : i < l.length := (List.getElem?_eq_some_iff.1 hc).1
      split at h
      · split at h
        · cases h
        · rename_i ts k hk
          have h3 := rowN_le n l (i + 1) (o + 1) (by omega) ts k hk
          have g1 := (ih l (i + 1) (o + 1) (by omega)).1 ts k hk
          split at h
          · simp only [Res.ok.injEq, Prod.mk.injEq] at h
            obtain ⟨rfl, rfl⟩ := h
            rw [textI, if_pos rfl]
            cases ts with
            | nil => simp [textR]; omega
            | cons b ts =>
             rw [textR] at g1 ⊢
             simp at g1 ⊢
             omega
          · cases h
      · cases h
    · split at h
      · cases h
      · rename_i hne
        simp only [Res.ok.injEq, Prod.mk.injEq] at h
        obtain ⟨rfl, rfl⟩ := h
        have hx : ((l.drop i).takeWhile sgn).length ≠ 0 := fun e => hne (by rw [skip_word, e]; rfl)
        rw [textI, if_neg (by simp), skip_word]
        omega
theorem text_first (ts : List Tr) : (textR true ts).length ≤ (textR false ts).length := by
 cases ts with
 | nil => simp [textR]
 | cons a l => simp [textR]
theorem text_shape : ∀ (a b : List Tr) (f : Bool), shapeT a b = true → textR f a = textR f b
 | [], [], _, _ => rfl
 | .mk x k r _ :: l, .mk y k' r' _ :: m, f, h => by
  simp only [shapeT, Bool.and_eq_true, beq_iff_eq] at h
  obtain ⟨⟨⟨rfl, rfl⟩, h1⟩, h2⟩ := h
  rw [textR, textR, text_shape l m false h2, textI, textI, text_shape k k' true h1]
 | [], _ :: _, _, h => by simp [shapeT] at h
 | _ :: _, [], _, h => by simp [shapeT] at h
theorem deep_shape : ∀ (a b : List Tr), shapeT a b = true → deepT a = deepT b
 | [], [], _ => rfl
 | .mk x k r _ :: l, .mk y k' r' _ :: m, h => by
  simp only [shapeT, Bool.and_eq_true, beq_iff_eq] at h
  obtain ⟨⟨⟨rfl, rfl⟩, h1⟩, h2⟩ := h
  rw [deepT, deepT, deep_shape l m h2, deep_shape k k' h1]
 | [], _ :: _, h => by simp [shapeT] at h
 | _ :: _, [], h => by simp [shapeT] at h
end
end Go.Proofs.YtmmgjaheffbpaaaGreatDoor
