/-
  The plain law of ValueBack: a value's text read back gives the value; texts tell values apart.
-/
import Derived.Test.YtcjjmejmpdhikaaGreatDoorValLaw
import Derived.Test.YtcjjmejmpdhikaaGreatDoorNumBack
namespace Go.Proofs.YtcjjmejmpdhikaaGreatDoor
set_option linter.unusedSimpArgs false
set_option linter.unusedVariables false

theorem numOf_back {b : Bool} {d : List Nat} (h : RightI b d) : numOf (numText b d) = some (b, d) := by
  obtain ⟨_, h2, h3, _⟩ := natText_facts d h.1
  have hb := natOf_back h.1
  cases b with
  | true =>
    have hd := h.2 rfl
    have hl : d.length ≠ 0 := fun e => hd (List.length_eq_zero_iff.1 e)
    unfold numOf cutM numText
    simp [hb, hl]
  | false =>
    have hh : (natText d).head? ≠ some 45 := by
      intro e
      cases hn : natText d with
      | nil => exact h3 hn
      | cons a l =>
        rw [hn] at e h2
        simp only [List.head?_cons, Option.some.injEq] at e
        subst e
        simp [isDec] at h2
    unfold numOf cutM numText
    simp [hb, hh]

mutual
/-- a value that is told with no more than its kind wants -/
def okV (ds : List Data) : Vl → Prop
  | .mk k b d t n f => (k = 1 ∧ RightI b d ∧ t = false ∧ n = [] ∧ f = []) ∨ (k = 2 ∧ b = false ∧ d = [] ∧ n = [] ∧ f = []) ∨
    (k = 3 ∧ b = false ∧ d = [] ∧ t = false ∧ (n = [] → f = []) ∧ (n ≠ [] → conB ds n = true) ∧ okVs ds f)
def okVs (ds : List Data) : List Vl → Prop
  | [] => True
  | v :: l => okV ds v ∧ okVs ds l
end
mutual
/-- the tree of a value -/
def treeV : Vl → Tr
  | .mk k b d t n f => if k = 1 then .mk (numText b d) [] false 0 else if k = 2 then .mk (boolB t) [] false 0 else if n = [] then .mk [] [] true 0 else .mk [] (.mk n [] false 0 :: treesV f) true 0
def treesV : List Vl → List Tr
  | [] => []
  | v :: l => treeV v :: treesV l
end
mutual
/-- numbers short enough to be read -/
def shortV : Vl → Prop
  | .mk k b d t n f => (k = 1 → (numText b d).length ≤ 400) ∧ shortVs f
def shortVs : List Vl → Prop
  | [] => True
  | v :: l => shortV v ∧ shortVs l
end
theorem treeV_1 (b : Bool) (d : List Nat) (t : Bool) (n : List UInt8) (f : List Vl) : treeV (.mk 1 b d t n f) = .mk (numText b d) [] false 0 := by rw [treeV, if_pos rfl]
theorem treeV_2 (b : Bool) (d : List Nat) (t : Bool) (n : List UInt8) (f : List Vl) : treeV (.mk 2 b d t n f) = .mk (boolB t) [] false 0 := by rw [treeV, if_neg (by omega), if_pos rfl]
theorem treeV_3 (b : Bool) (d : List Nat) (t : Bool) (n : List UInt8) (f : List Vl) : treeV (.mk 3 b d t n f) = if n = [] then .mk [] [] true 0 else .mk [] (.mk n [] false 0 :: treesV f) true 0 := by rw [treeV, if_neg (by omega), if_neg (by omega)]
theorem valText_1 (b : Bool) (d : List Nat) (t : Bool) (n : List UInt8) (f : List Vl) : valText (.mk 1 b d t n f) = numText b d := by rw [valText, if_pos rfl]
theorem valText_2 (b : Bool) (d : List Nat) (t : Bool) (n : List UInt8) (f : List Vl) : valText (.mk 2 b d t n f) = boolB t := by rw [valText, if_neg (by omega), if_pos rfl]
theorem valText_3 (b : Bool) (d : List Nat) (t : Bool) (n : List UInt8) (f : List Vl) : valText (.mk 3 b d t n f) = if n = [] then [40, 41] else 40 :: joinW (n :: valTexts f) ++ [41] := by rw [valText, if_neg (by omega), if_neg (by omega), if_pos rfl]
theorem Wf_one (o : Nat) (x : List UInt8) (k : List Tr) (r : Bool) (a : Int) (h : if r then x = [] ∧ o < 400 ∧ Wf (o + 1) k else k = [] ∧ x ≠ [] ∧ x.all sgn = true) : Wf o [.mk x k r a] := by rw [Wf]; exact ⟨h, by rw [Wf]; trivial⟩
theorem treesV_map (l : List Vl) : treesV l = l.map treeV := by
  induction l with
  | nil => rfl
  | cons v l ih => simp [treesV, ih]

theorem wordV_num {b : Bool} {d : List Nat} (h : RightI b d) : wordV (numText b d) = (.mk 1 b d false [] [], decide ((numText b d).length ≤ 400)) := by
  unfold wordV
  rw [numOf_back h]
theorem numOf_bool (t : Bool) : numOf (boolB t) = none := by cases t <;> rfl
theorem wordV_bool (t : Bool) : wordV (boolB t) = (.mk 2 false [] t [] [], true) := by
  unfold wordV
  rw [numOf_bool]
  cases t <;> rfl

/-- the value of a value's tree -/
theorem valT_tree (ds : List Data) (N : Nat) : (∀ v : Vl, SizeOf.sizeOf v < N → okV ds v → shortV v → valT ds (treeV v) = (v, true)) ∧ (∀ f : List Vl, SizeOf.sizeOf f < N → okVs ds f → shortVs f → valTs ds (treesV f) = some f) := by
  induction N with
  | zero => exact ⟨fun v h => by omega, fun f h => by omega⟩
  | succ N ih =>
    constructor
    · intro v hN ho hs
      obtain ⟨k, b, d, t, n, f⟩ := v
      rw [okV] at ho
      rw [shortV] at hs
      rw [treeV]
      rcases ho with ⟨rfl, hr, rfl, rfl, rfl⟩ | ⟨rfl, rfl, rfl, rfl, rfl⟩ | ⟨rfl, rfl, rfl, rfl, h1, h2, h3⟩
      · rw [if_pos rfl, valT_eq, if_pos rfl, wordV_num hr, decide_eq_true (hs.1 rfl)]
      · rw [if_neg (by omega), if_pos rfl, valT_eq, if_pos rfl, wordV_bool]
      · rw [if_neg (by omega), if_neg (by omega)]
        by_cases hn : n = []
        · rw [if_pos hn, valT_eq, if_neg (by simp)]
          rw [hn, h1 hn]
        · rw [if_neg hn, valT_eq, if_neg (by simp)]
          dsimp only
          have hc := h2 hn
          have hv := ih.2 f (by simp at hN; omega) h3 hs.2
          rw [if_neg (by simp [Tr.row, Tr.word, hc]), hv]
          rfl
    · intro f hN ho hs
      cases f with
      | nil => rfl
      | cons v l =>
        rw [okVs] at ho
        rw [shortVs] at hs
        rw [treesV, valTs, ih.1 v (by simp at hN; omega) ho.1 hs.1, ih.2 l (by simp at hN; omega) ho.2 hs.2]

/-- the text of a value's tree -/
theorem textI_tree (ds : List Data) (N : Nat) : (∀ v : Vl, SizeOf.sizeOf v < N → okV ds v → textI (treeV v) = valText v) ∧ (∀ f : List Vl, SizeOf.sizeOf f < N → okVs ds f → (treesV f).map textI = valTexts f) := by
  induction N with
  | zero => exact ⟨fun v h => by omega, fun f h => by omega⟩
  | succ N ih =>
    constructor
    · intro v hN ho
      obtain ⟨k, b, d, t, n, f⟩ := v
      rw [okV] at ho
      rcases ho with ⟨rfl, hr, rfl, rfl, rfl⟩ | ⟨rfl, rfl, rfl, rfl, rfl⟩ | ⟨rfl, rfl, rfl, rfl, h1, h2, h3⟩
      · rw [treeV_1, valText_1, textI_word]
      · rw [treeV_2, valText_2, textI_word]
      · rw [treeV_3, valText_3]
        by_cases hn : n = []
        · rw [if_pos hn, if_pos hn, textI_row]; simp [textR]
        · rw [if_neg hn, if_neg hn, textI_row, textR_true, textI_word, ih.2 f (by simp at hN; omega) h3]; simp
    · intro f hN ho
      cases f with
      | nil => rfl
      | cons v l =>
        rw [okVs] at ho
        rw [treesV, valTexts, List.map_cons, ih.1 v (by simp at hN; omega) ho.1, ih.2 l (by simp at hN; omega) ho.2]

/-! Trees, less their places. -/
mutual
def sk : Tr → Tr
  | .mk w k r _ => .mk w (sks k) r 0
def sks : List Tr → List Tr
  | [] => []
  | t :: l => sk t :: sks l
end
theorem sks_shape : ∀ (l m : List Tr), shapeT l m = true → sks l = sks m
  | [], [], _ => rfl
  | .mk x k r _ :: l, .mk y k' r' _ :: m, h => by
    simp only [shapeT, Bool.and_eq_true, beq_iff_eq] at h
    obtain ⟨⟨⟨rfl, rfl⟩, hk⟩, hl⟩ := h
    rw [sks, sks, sk, sk, sks_shape k k' hk, sks_shape l m hl]
  | [], _ :: _, h => by simp [shapeT] at h
  | _ :: _, [], h => by simp [shapeT] at h
theorem sk_tree (N : Nat) : (∀ v : Vl, SizeOf.sizeOf v < N → sk (treeV v) = treeV v) ∧ (∀ f : List Vl, SizeOf.sizeOf f < N → sks (treesV f) = treesV f) := by
  induction N with
  | zero => exact ⟨fun v h => by omega, fun f h => by omega⟩
  | succ N ih =>
    constructor
    · intro v hN
      obtain ⟨k, b, d, t, n, f⟩ := v
      rw [treeV]
      split
      · rfl
      · split
        · rfl
        · split
          · rfl
          · rw [sk, sks, sk, ih.2 f (by simp at hN; omega)]; rfl
    · intro f hN
      cases f with
      | nil => rfl
      | cons v l => rw [treesV, sks, ih.1 v (by simp at hN; omega), ih.2 l (by simp at hN; omega)]

theorem treeV_inj (ds : List Data) (N : Nat) : (∀ v w : Vl, SizeOf.sizeOf v < N → okV ds v → okV ds w → treeV v = treeV w → v = w) ∧ (∀ f g : List Vl, SizeOf.sizeOf f < N → okVs ds f → okVs ds g → treesV f = treesV g → f = g) := by
  induction N with
  | zero => exact ⟨fun v w h => by omega, fun f g h => by omega⟩
  | succ N ih =>
    constructor
    · intro v w hN ho hw he
      obtain ⟨k, b, d, t, n, f⟩ := v
      obtain ⟨k', b', d', t', n', f'⟩ := w
      rw [okV] at ho hw
      rcases ho with ⟨rfl, hr, rfl, rfl, rfl⟩ | ⟨rfl, rfl, rfl, rfl, rfl⟩ | ⟨rfl, rfl, rfl, rfl, h1, h2, h3⟩ <;> rcases hw with ⟨rfl, hr', rfl, rfl, rfl⟩ | ⟨rfl, rfl, rfl, rfl, rfl⟩ | ⟨rfl, rfl, rfl, rfl, g1, g2, g3⟩
      · rw [treeV_1, treeV_1] at he
        injection he with he
        have e1 := numOf_back hr
        rw [he, numOf_back hr'] at e1
        simp only [Option.some.injEq, Prod.mk.injEq] at e1
        obtain ⟨rfl, rfl⟩ := e1
        rfl
      · rw [treeV_1, treeV_2] at he
        injection he with he
        have e1 := numOf_back hr
        rw [he, numOf_bool] at e1
        cases e1
      · rw [treeV_1, treeV_3] at he
        split at he <;> simp at he
      · rw [treeV_2, treeV_1] at he
        injection he with he
        have e1 := numOf_back hr'
        rw [← he, numOf_bool] at e1
        cases e1
      · rw [treeV_2, treeV_2] at he
        injection he with he
        have : t = t' := by
          revert he
          cases t <;> cases t' <;> first | (intro _; rfl) | (intro he; exact absurd he (by decide))
        rw [this]
      · rw [treeV_2, treeV_3] at he
        split at he <;> simp at he
      · rw [treeV_3, treeV_1] at he
        split at he <;> simp at he
      · rw [treeV_3, treeV_2] at he
        split at he <;> simp at he
      · rw [treeV_3, treeV_3] at he
        by_cases hn : n = []
        · by_cases hn' : n' = []
          · rw [hn, hn', h1 hn, g1 hn']
          · rw [if_pos hn, if_neg hn'] at he; simp at he
        · by_cases hn' : n' = []
          · rw [if_neg hn, if_pos hn'] at he; simp at he
          · rw [if_neg hn, if_neg hn'] at he
            simp only [Tr.mk.injEq, List.cons.injEq, true_and, and_true] at he
            obtain ⟨rfl, he⟩ := he
            rw [ih.2 f f' (by simp at hN; omega) h3 g3 he]
    · intro f g hN ho hg he
      cases f with
      | nil =>
        cases g with
        | nil => rfl
        | cons w m => simp [treesV] at he
      | cons v l =>
        cases g with
        | nil => simp [treesV] at he
        | cons w m =>
          rw [okVs] at ho hg
          rw [treesV, treesV, List.cons.injEq] at he
          rw [ih.1 v w (by simp at hN; omega) ho.1 hg.1 he.1, ih.2 l m (by simp at hN; omega) ho.2 hg.2 he.2]

/-- a tree's text, read -/
theorem parse_tree {t : Tr} (hwf : Wf 0 [t]) (hl : (textI t).length ≤ 262144) : (parseT (textI t)).2.2 = 0 ∧ ∃ u, (parseT (textI t)).1 = [u] ∧ shapeT [t] [u] = true := by
  have htt : textR true [t] = textI t := by simp [textR]
  obtain ⟨us, hu, hsh⟩ := back (SizeOf.sizeOf [t] + 1) [t] (by omega) true 0 hwf (textI t) [] 0 (2 * (textI t).length + 2) (by rw [htt]; simp) (by omega) (.inl rfl) (by omega)
  have hp : parseT (textI t) = (us, 0, 0) := by
    unfold parseT
    rw [if_neg (by omega), hu]
    simp [htt]
  rw [hp]
  refine ⟨rfl, ?_⟩
  have := shapeT_len _ _ hsh
  match us, this with
  | [u], _ => exact ⟨u, rfl, hsh⟩

/-- texts tell values apart -/
theorem valText_inj (ds : List Data) {v w : Vl} (hv : okV ds v) (hw : okV ds w) (fv : Wf 0 [treeV v]) (fw : Wf 0 [treeV w]) (hl : (valText v).length ≤ 262144) (he : valText v = valText w) : v = w := by
  have tv := (textI_tree ds _).1 v (Nat.lt_succ_self _) hv
  have tw := (textI_tree ds _).1 w (Nat.lt_succ_self _) hw
  obtain ⟨_, u, h1, h2⟩ := parse_tree fv (by rw [tv]; exact hl)
  obtain ⟨_, u', g1, g2⟩ := parse_tree fw (by rw [tw, ← he]; exact hl)
  rw [tw, ← he, ← tv, h1] at g1
  injection g1 with g1
  subst g1
  have e1 := sks_shape _ _ h2
  have e2 := sks_shape _ _ g2
  have e3 : sks [treeV v] = sks [treeV w] := e1.trans e2.symm
  simp only [sks, List.cons.injEq, and_true] at e3
  rw [(sk_tree _).1 v (Nat.lt_succ_self _), (sk_tree _).1 w (Nat.lt_succ_self _)] at e3
  exact (treeV_inj ds _).1 v w (Nat.lt_succ_self _) hv hw e3

/-- a value's text, read at its sort -/
theorem parseV_back (ds : List Data) (sort : List UInt8) {v : Vl} (hv : okV ds v) (hs : shortV v) (ho : ofV ds sort v = true) (fv : Wf 0 [treeV v]) (hl : (valText v).length ≤ 262144) : parseV ds sort (valText v) = (v, true) := by
  have tv := (textI_tree ds _).1 v (Nat.lt_succ_self _) hv
  obtain ⟨h0, u, h1, h2⟩ := parse_tree fv (by rw [tv]; exact hl)
  rw [tv] at h0 h1
  have hval := (valT_shape ds _).1 (treeV v) u (Nat.lt_succ_self _) h2
  rw [(valT_tree ds _).1 v (Nat.lt_succ_self _) hv hs] at hval
  rw [parseV_of h0 h1 (by rw [← hval]) (by rw [← hval]; exact ho), ← hval]

/-! What the statement's guards give. -/
mutual
/-- how many values, digits, letters -/
def countV : Vl → Nat
  | .mk k b d t n f => 1 + d.length + n.length / 8 + countVs f
def countVs : List Vl → Nat
  | [] => 0
  | v :: l => countV v + countVs l
end
def wordP (s : List UInt8) : Prop := s ≠ [] ∧ s.all sgn = true ∧ s.length ≤ 100
def namesP (ds : List Data) : Prop := ∀ d ∈ ds, ∀ c ∈ d.2, wordP c.1

theorem conB_mem {ds : List Data} {n : List UInt8} (h : conB ds n = true) : ∃ d ∈ ds, ∃ c ∈ d.2, c.1 = n := by
  unfold conB rowsD at h
  rw [List.any_map, List.any_eq_true] at h
  obtain ⟨d, hd, h⟩ := h
  rw [Function.comp_apply, hasCon_D] at h
  unfold rowsC at h
  rw [List.any_map, List.any_eq_true] at h
  obtain ⟨c, hc, h⟩ := h
  rw [Function.comp_apply, named_C, beq_iff_eq] at h
  exact ⟨d, hd, c, hc, h⟩
theorem fidx_some_any {p : List AV → Bool} : ∀ {l : List (List AV)} {i : Nat}, fidx p l = some i → l.any p = true
  | [], i, h => by simp [fidx] at h
  | a :: l, i, h => by
    rw [fidx] at h
    rw [List.any_cons]
    split at h
    · rename_i hp; rw [hp]; rfl
    · obtain ⟨j, hj, _⟩ := Option.map_eq_some_iff.1 h
      rw [fidx_some_any hj]; simp
theorem conM_conB {n : List UInt8} : ∀ {ds : List Data} {q : Nat × Nat}, conM n ds = some q → conB ds n = true
  | [], q, h => by simp [conM] at h
  | d :: l, q, h => by
    rw [conM] at h
    unfold conB rowsD
    rw [List.map_cons, List.any_cons, hasCon_D]
    split at h
    · rename_i j hj
      rw [fidx_some_any hj]; rfl
    · obtain ⟨q', hq, _⟩ := Option.map_eq_some_iff.1 h
      have := conM_conB hq
      unfold conB rowsD at this
      rw [this]; simp

/-- of a sort: told with no more than its kind wants -/
theorem okV_of (ds : List Data) (N : Nat) : (∀ (v : Vl) (sort : List UInt8), SizeOf.sizeOf v < N → ofV ds sort v = true → okV ds v) ∧ (∀ (f : List Vl) (ss : List (List UInt8)), SizeOf.sizeOf f < N → ss.length = f.length → ofVs ds ss f = true → okVs ds f) := by
  induction N with
  | zero => exact ⟨fun v s h => by omega, fun f ss h => by omega⟩
  | succ N ih =>
    constructor
    · intro v sort hN h
      obtain ⟨k, b, d, t, n, f⟩ := v
      rw [ofV, Bool.and_eq_true] at h
      obtain ⟨hno, h⟩ := h
      unfold noneB at hno
      simp only [Bool.and_eq_true, Bool.or_eq_true, beq_iff_eq, List.length_eq_zero_iff, Bool.not_eq_true'] at hno
      obtain ⟨⟨n1, n2⟩, n3⟩ := hno
      rw [okV]
      by_cases hk1 : k = 1
      · subst hk1
        rw [if_pos rfl, Bool.and_eq_true] at h
        have h2 : t = false := by rcases n2 with n2 | n2; (· omega); exact n2
        have h3 : n = [] ∧ f = [] := by rcases n3 with n3 | n3; (· omega); exact n3
        exact .inl ⟨rfl, (rightIB_iff b d).1 h.2, h2, h3.1, h3.2⟩
      · rw [if_neg hk1] at h
        have h1 : d = [] ∧ b = false := by rcases n1 with n1 | n1; (· exact absurd n1 hk1); exact n1
        by_cases hk2 : k = 2
        · subst hk2
          have h3 : n = [] ∧ f = [] := by rcases n3 with n3 | n3; (· omega); exact n3
          exact .inr (.inl ⟨rfl, h1.2, h1.1, h3.1, h3.2⟩)
        · rw [if_neg hk2] at h
          have h2 : t = false := by rcases n2 with n2 | n2; (· exact absurd n2 hk2); exact n2
          by_cases hk3 : k = 3
          · subst hk3
            rw [if_pos rfl, Bool.and_eq_true] at h
            obtain ⟨_, h⟩ := h
            refine .inr (.inr ⟨rfl, h1.2, h1.1, h2, ?_⟩)
            by_cases hn : n = []
            · rw [if_pos hn] at h
              have hf : f = [] := by simpa using h
              refine ⟨fun _ => hf, fun g => absurd hn g, ?_⟩
              rw [hf]; trivial
            · rw [if_neg hn] at h
              refine ⟨fun g => absurd g hn, fun _ => ?_, ?_⟩
              · cases hc : conM n ds with
                | none => rw [hc] at h; cases h
                | some q => exact conM_conB hc
              · split at h
                · cases h
                · split at h
                  · cases h
                  · rw [Bool.and_eq_true] at h
                    obtain ⟨_, h⟩ := h
                    split at h
                    · cases h
                    · rename_i cc _
                      rw [Bool.and_eq_true, beq_iff_eq] at h
                      exact ih.2 f cc.2 (by simp at hN; omega) h.1 h.2
          · rw [if_neg hk3] at h; cases h
    · intro f ss hN hl h
      cases f with
      | nil => trivial
      | cons v l =>
        cases ss with
        | nil => simp at hl
        | cons s ss =>
          rw [ofVs, Bool.and_eq_true] at h
          rw [okVs]
          exact ⟨ih.1 v s (by simp at hN; omega) h.1, ih.2 l ss (by simp at hN; omega) (by simpa using hl) h.2⟩

theorem sgn_dig {s : List UInt8} (h : isDec s = true) : s.all sgn = true := by
  rw [List.all_eq_true]
  intro b hb
  have := List.all_eq_true.1 h b hb
  simp only [Bool.and_eq_true, decide_eq_true_eq] at this
  unfold sgn
  have h1 : (48 : UInt8) ≤ b := UInt8.le_iff_toNat_le.2 this.1
  have h2 : b ≤ (57 : UInt8) := UInt8.le_iff_toNat_le.2 this.2
  simp [h1, h2]
theorem sgn_num {b : Bool} {d : List Nat} (h : RightI b d) : numText b d ≠ [] ∧ (numText b d).all sgn = true := by
  obtain ⟨_, h2, h3, _⟩ := natText_facts d h.1
  have := sgn_dig h2
  unfold numText
  cases b with
  | true => exact ⟨by simp, by rw [if_pos rfl, List.all_cons, this]; rfl⟩
  | false => exact ⟨by simpa using h3, by simpa using this⟩

/-- the tree of a value is as a text gives trees; how long its text is -/
theorem tree_wf (ds : List Data) (hn : namesP ds) (N : Nat) : (∀ (v : Vl) (o : Nat), SizeOf.sizeOf v < N → okV ds v → o + countV v ≤ 400 → Wf o [treeV v] ∧ (valText v).length + 1 ≤ 120 * countV v) ∧ (∀ (f : List Vl) (o : Nat), SizeOf.sizeOf f < N → okVs ds f → o + countVs f ≤ 400 → Wf o (treesV f) ∧ ((valTexts f).flatMap (fun v => 32 :: v)).length ≤ 120 * countVs f) := by
  induction N with
  | zero => exact ⟨fun v o h => by omega, fun f o h => by omega⟩
  | succ N ih =>
    constructor
    · intro v o hN ho hc
      obtain ⟨k, b, d, t, n, f⟩ := v
      rw [okV] at ho
      rw [countV] at hc ⊢
      rcases ho with ⟨rfl, hr, rfl, rfl, rfl⟩ | ⟨rfl, rfl, rfl, rfl, rfl⟩ | ⟨rfl, rfl, rfl, rfl, h1, h2, h3⟩
      · rw [treeV_1, valText_1]
        obtain ⟨g1, g2⟩ := sgn_num hr
        refine ⟨Wf_one _ _ _ _ _ (by rw [if_neg (by simp)]; exact ⟨rfl, g1, g2⟩), ?_⟩
        have := (natText_len d hr.1.1).2
        unfold numText
        split <;> simp <;> omega
      · rw [treeV_2, valText_2]
        refine ⟨Wf_one _ _ _ _ _ (by rw [if_neg (by simp)]; exact ⟨rfl, by cases t <;> decide, by cases t <;> decide⟩), ?_⟩
        have : (boolB t).length ≤ 5 := by cases t <;> decide
        omega
      · rw [treeV_3, valText_3]
        by_cases hn0 : n = []
        · rw [if_pos hn0, if_pos hn0]
          refine ⟨Wf_one _ _ _ _ _ (by rw [if_pos rfl]; exact ⟨rfl, by omega, by rw [Wf]; trivial⟩), ?_⟩
          simp; omega
        · rw [if_neg hn0, if_neg hn0]
          obtain ⟨d', hd', c', hc', rfl⟩ := conB_mem (h2 hn0)
          obtain ⟨w1, w2, w3⟩ := hn d' hd' c' hc'
          obtain ⟨i1, i2⟩ := ih.2 f (o + 1) (by simp at hN; omega) h3 (by omega)
          refine ⟨Wf_one _ _ _ _ _ (by rw [if_pos rfl]; exact ⟨rfl, by omega, by rw [Wf]; exact ⟨by rw [if_neg (by simp)]; exact ⟨rfl, w1, w2⟩, i1⟩⟩), ?_⟩
          rw [joinW_flat]
          simp only [List.length_append, List.length_cons, List.length_nil]
          omega
    · intro f o hN ho hc
      cases f with
      | nil => exact ⟨by rw [treesV, Wf]; trivial, by simp [valTexts]⟩
      | cons v l =>
        rw [okVs] at ho
        rw [countVs] at hc ⊢
        obtain ⟨g1, g2⟩ := ih.1 v o (by simp at hN; omega) ho.1 (by omega)
        obtain ⟨k1, k2⟩ := ih.2 l o (by simp at hN; omega) ho.2 (by omega)
        refine ⟨?_, ?_⟩
        · rw [treesV]
          generalize treeV v = t at *
          obtain ⟨x, k, r, a⟩ := t
          rw [Wf] at g1 ⊢
          exact ⟨g1.1, k1⟩
        · rw [valTexts, List.flatMap_cons, List.length_append, List.length_cons]
          omega

mutual
/-- numbers of at most 40 digits (of base 10^9) -/
def lowV : Vl → Prop
  | .mk k b d t n f => d.length ≤ 40 ∧ lowVs f
def lowVs : List Vl → Prop
  | [] => True
  | v :: l => lowV v ∧ lowVs l
end
theorem short_low (ds : List Data) (N : Nat) : (∀ v : Vl, SizeOf.sizeOf v < N → okV ds v → lowV v → shortV v) ∧ (∀ f : List Vl, SizeOf.sizeOf f < N → okVs ds f → lowVs f → shortVs f) := by
  induction N with
  | zero => exact ⟨fun v h => by omega, fun f h => by omega⟩
  | succ N ih =>
    constructor
    · intro v hN ho hl
      obtain ⟨k, b, d, t, n, f⟩ := v
      rw [okV] at ho
      rw [lowV] at hl
      rw [shortV]
      refine ⟨fun hk => ?_, ih.2 f (by simp at hN; omega) ?_ hl.2⟩
      · rcases ho with ⟨_, hr, _⟩ | ⟨h, _⟩ | ⟨h, _⟩
        · have := (natText_len d hr.1.1).2
          unfold numText
          split <;> simp <;> omega
        · omega
        · omega
      · rcases ho with ⟨_, _, _, _, rfl⟩ | ⟨_, _, _, _, rfl⟩ | ⟨_, _, _, _, _, _, h⟩
        · trivial
        · trivial
        · exact h
    · intro f hN ho hl
      cases f with
      | nil => trivial
      | cons v l =>
        rw [okVs] at ho
        rw [lowVs] at hl
        rw [shortVs]
        exact ⟨ih.1 v (by simp at hN; omega) ho.1 hl.1, ih.2 l (by simp at hN; omega) ho.2 hl.2⟩

end Go.Proofs.YtcjjmejmpdhikaaGreatDoor
