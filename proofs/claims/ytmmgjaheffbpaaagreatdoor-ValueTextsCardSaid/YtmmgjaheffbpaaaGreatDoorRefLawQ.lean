/-
 LEX, PLAIN: the document's Parse, by rows that are open, is the parser's.
-/
import Derived.Test.YtmmgjaheffbpaaaGreatDoorRefParseQ
import Derived.Test.YtmmgjaheffbpaaaGreatDoorLexPlainQ
import Derived.Test.YtmmgjaheffbpaaaGreatDoorEvAwakeQ
import Derived.Test.YtmmgjaheffbpaaaGreatDoorLexBackLawQ
namespace Go.Proofs.YtmmgjaheffbpaaaGreatDoor
set_option maxRecDepth 100000
set_option maxHeartbeats 8000000
set_option linter.unusedSimpArgs false
set_option linter.unusedVariables false
set_option linter.unusedSectionVars false
section
theorem skip_stops (p : UInt8 → Bool) (l : List UInt8) (i : Nat) {c : UInt8} (h : l[skipTo p l i]? = some c) : p c = false := by
 unfold skipTo at h
 rw [← List.getElem?_drop] at h
 generalize l.drop i = m at h
 induction m with
 | nil => simp at h
 | cons a m ih =>
  rw [List.takeWhile_cons] at h
  split at h
  · exact ih (by simpa using h)
  · rename_i hp
    simp at h; subst h
    simpa using hp
theorem runP_fuel (l : List UInt8) : ∀ (k i m : Nat) (st : List (List Tr × Int)), l.length - i ≤ k → l.length - i < m → runP m l i st = runP (l.length - i + 1) l i st := by
 intro k
 induction k with
 | zero =>
  intro i m st hk hm
  obtain ⟨m, rfl⟩ : ∃ n, m = n + 1 := ⟨m - 1, by omega⟩
  have hn : l[i]? = none := List.getElem?_eq_none (by omega)
  show (match l[i]? with | none => _ | some c => _) = (match l[i]? with | none => _ | some c => _)
  rw [hn]
 | succ k ih =>
  intro i m st hk hm
  obtain ⟨m, rfl⟩ : ∃ n, m = n + 1 := ⟨m - 1, by omega⟩
  cases hc : l[i]? with
  | none =>
   show (match l[i]? with | none => _ | some c => _) = (match l[i]? with | none => _ | some c => _)
   rw [hc]
  | some c =>
   have hlt := (List.getElem?_eq_some_iff.1 hc).1
   rw [runP_some hc, runP_some hc]
   have e1 : ∀ st, runP m l (i + 1) st = runP (l.length - i) l (i + 1) st := fun st => by rw [ih (i + 1) m st (by omega) (by omega), ih (i + 1) (l.length - i) st (by omega) (by omega)]
   have hge := skipTo_ge sgn l i
   rw [e1, e1, e1]
   split
   · rfl
   · split
     · rfl
     · split
       · rfl
       · split
         · rename_i hs
           have hgt : i < skipTo sgn l i := by
            have := skipTo_yes sgn l i hlt (by have := List.getElem?_eq_getElem hlt; rw [hc] at this; injection this with this; rw [← this]; exact hs)
            have h2 := skipTo_ge sgn l (i + 1)
            omega
           rw [ih _ m _ (by omega) (by omega), ih _ (l.length - i) _ (by omega) (by omega)]
         · rfl
def runA (l : List UInt8) (i : Nat) (st : List (List Tr × Int)) : Res (List Tr) := runP (l.length - i + 1) l i st
theorem runA_some {l : List UInt8} {i : Nat} {st : List (List Tr × Int)} {c : UInt8} (h : l[i]? = some c) : runA l i st =
      if blk c then runA l (i + 1) st
      else if c = 40 then (if 400 < st.length then .bad i 3 else runA l (i + 1) (([], (i : Int)) :: st))
      else if c = 41 then (if st.length = 1 then .bad i 20 else runA l (i + 1) (closeS st))
      else if sgn c then runA l (skipTo sgn l i) (putS st (.mk ((l.drop i).takeWhile sgn) [] false i))
      else .bad i 20 := by
 have hlt := (List.getElem?_eq_some_iff.1 h).1
 unfold runA
 rw [runP_some h]
 have e1 : ∀ st, runP (l.length - i) l (i + 1) st = runP (l.length - (i + 1) + 1) l (i + 1) st := fun st => runP_fuel l _ (i + 1) _ st (Nat.le_refl _) (by omega)
 rw [e1, e1, e1]
 split
 · rfl
 · split
   · rfl
   · split
     · rfl
     · split
       · rename_i hs
         have hgt : i < skipTo sgn l i := by
          have := skipTo_yes sgn l i hlt (by have := List.getElem?_eq_getElem hlt; rw [h] at this; injection this with this; rw [← this]; exact hs)
          have h2 := skipTo_ge sgn l (i + 1)
          omega
         rw [runP_fuel l _ _ _ _ (Nat.le_refl _) (by omega)]
       · rfl
theorem runA_none {l : List UInt8} {i : Nat} {xs : List Tr} {b : Int} {rest : List (List Tr × Int)} (h : l[i]? = none) : runA l i ((xs, b) :: rest) = if 1 < rest.length + 1 then .bad l.length 20 else .ok xs := runP_none h
theorem runA_skip (l : List UInt8) : ∀ (k i : Nat) (st : List (List Tr × Int)), l.length - i ≤ k → runA l i st = runA l (skipTo blk l i) st := by
 intro k
 induction k with
 | zero => intro i st hk; rw [skipTo_end blk l i (by omega)]
 | succ k ih =>
  intro i st hk
  rcases Nat.lt_or_ge i l.length with hlt | hge
  · cases hb : blk l[i] with
    | true =>
     rw [runA_some (List.getElem?_eq_getElem hlt), if_pos hb, ih (i + 1) st (by omega), skipTo_yes blk l i hlt hb]
    | false => rw [skipTo_no blk l i hlt hb]
  · rw [skipTo_end blk l i hge]
theorem run_rows (n : Nat) : ∀ (l : List UInt8) (i o : Nat) (xs : List Tr) (b : Int) (rest : List (List Tr × Int)), i ≤ l.length → rest.length = o → o ≤ 400 →
    (2 * (l.length - i) + 1 ≤ n → (∀ ts j, rowN n l i o = .ok (ts, j) → runA l i ((xs, b) :: rest) = runA l j ((xs ++ ts, b) :: rest) ∧ (l[j]? = none ∨ l[j]? = some 41)) ∧ ∀ p e, rowN n l i o = .bad p e → runA l i ((xs, b) :: rest) = .bad p e) ∧
    (2 * (l.length - i) ≤ n → ∀ c, l[i]? = some c → blk c = false → c ≠ 41 → (∀ t k, treeN n l i o = .ok (t, k) → runA l i ((xs, b) :: rest) = runA l k ((xs ++ [t], b) :: rest)) ∧ ∀ p e, treeN n l i o = .bad p e → runA l i ((xs, b) :: rest) = .bad p e) := by
 induction n with
 | zero =>
  intro l i o xs b rest hi ho h400
  refine ⟨fun h => by omega, fun h c hc => ?_⟩
  have := (List.getElem?_eq_some_iff.1 hc).1
  omega
 | succ n ih =>
  intro l i o xs b rest hi ho h400
  refine ⟨fun hn => ?_, fun hn c hc hb h41 => ?_⟩
  · have hge := skipTo_ge blk l i
    have hle := skipTo_le blk l i hi
    have hsk := runA_skip l _ i ((xs, b) :: rest) (Nat.le_refl _)
    rw [rowN, hsk]
    have hst := @skip_stops blk l i
    generalize skipTo blk l i = i' at *
    cases hc : l[i']? with
    | none =>
     refine ⟨fun ts j h => ?_, fun p e h => by cases h⟩
     cases h
     exact ⟨by simp, .inl hc⟩
    | some c =>
     dsimp only
     have hlt := (List.getElem?_eq_some_iff.1 hc).1
     by_cases h41 : c = 41
     · rw [if_pos h41]
       refine ⟨fun ts j h => ?_, fun p e h => by cases h⟩
       cases h
       exact ⟨by simp, .inr (by rw [hc, h41])⟩
     · rw [if_neg h41]
       obtain ⟨t1, t2⟩ := (ih l i' o xs b rest hle ho h400).2 (by omega) c hc (hst hc) h41
       cases ht : treeN n l i' o with
       | bad p e =>
        refine ⟨fun ts j h => by simp at h, fun p' e' h => ?_⟩
        simp at h
        obtain ⟨rfl, rfl⟩ := h
        exact t2 _ _ ht
       | ok q =>
        obtain ⟨t, k⟩ := q
        dsimp only
        have e1 := t1 t k ht
        have hk := treeN_le n l i' o hle t k ht
        have hk2 := treeN_lt n l i' o hle t k ht
        obtain ⟨r1, r2⟩ := (ih l k o (xs ++ [t]) b rest hk.2 ho h400).1 (by omega)
        cases hr : rowN n l k o with
        | bad p e =>
         refine ⟨fun ts j h => by simp at h, fun p' e' h => ?_⟩
         simp at h
         obtain ⟨rfl, rfl⟩ := h
         rw [e1]; exact r2 _ _ hr
        | ok q =>
         obtain ⟨ts', m⟩ := q
         refine ⟨fun ts j h => ?_, fun p e h => by simp at h⟩
         simp at h
         obtain ⟨rfl, rfl⟩ := h
         obtain ⟨g1, g2⟩ := r1 _ _ hr
         exact ⟨by rw [e1, g1]; simp, g2⟩
  · have hlt := (List.getElem?_eq_some_iff.1 hc).1
    have hci : c = l[i] := by have := List.getElem?_eq_getElem hlt; rw [hc] at this; exact Option.some.inj this
    have eA := runA_some (st := (xs, b) :: rest) hc
    rw [if_neg (by simp [hb])] at eA
    rw [eA]
    clear eA
    rw [treeN]
    by_cases h40 : c = 40
    · subst h40
      rw [if_pos hc, if_pos (show (40 : UInt8) = 40 from rfl)]
      by_cases ho4 : o < 400
      · rw [if_pos ho4, if_neg (by simp; omega)]
        obtain ⟨r1, r2⟩ := (ih l (i + 1) (o + 1) [] (i : Int) ((xs, b) :: rest) (by omega) (by simp; omega) (by omega)).1 (by omega)
        cases hr : rowN n l (i + 1) (o + 1) with
        | bad p e =>
         refine ⟨fun ts j h => by simp at h, fun p' e' h => ?_⟩
         simp at h
         obtain ⟨rfl, rfl⟩ := h
         exact r2 _ _ hr
        | ok q =>
         obtain ⟨ts, j⟩ := q
         obtain ⟨g1, g2⟩ := r1 _ _ hr
         dsimp only
         rw [g1]
         by_cases hj : j < l.length
         · rw [if_pos hj]
           refine ⟨fun t k h => ?_, fun p e h => by simp at h⟩
           simp at h
           obtain ⟨rfl, rfl⟩ := h
           rcases g2 with g2 | g2
           · rw [List.getElem?_eq_none_iff] at g2; omega
           · rw [runA_some g2, if_neg (by decide), if_neg (by decide), if_pos rfl, if_neg (by simp)]
             rfl
         · rw [if_neg hj]
           refine ⟨fun t k h => by simp at h, fun p e h => ?_⟩
           simp at h
           obtain ⟨rfl, rfl⟩ := h
           have hle := (rowN_le n l (i + 1) (o + 1) (by omega) ts j hr).2
           rw [runA_none (List.getElem?_eq_none (by omega)), if_pos (by simp), show l.length = j by omega]
      · rw [if_neg ho4, if_pos (by simp; omega)]
        refine ⟨fun t k h => by simp at h, fun p e h => ?_⟩
        simp at h
        obtain ⟨rfl, rfl⟩ := h
        rfl
    · rw [if_neg (show ¬ l[i]? = some 40 by rw [hc]; simpa using h40), if_neg h40, if_neg h41]
      cases hs : sgn c with
      | true =>
       have hgt : i < skipTo sgn l i := by
        have := skipTo_yes sgn l i hlt (by rw [← hci]; exact hs)
        have h2 := skipTo_ge sgn l (i + 1)
        omega
       rw [if_neg (show ¬ skipTo sgn l i = i by omega), if_pos rfl]
       refine ⟨fun t k h => ?_, fun p e h => by simp at h⟩
       simp at h
       obtain ⟨rfl, rfl⟩ := h
       rfl
      | false =>
       rw [if_pos (skipTo_no sgn l i hlt (by rw [← hci]; exact hs)), if_neg (by simp)]
       refine ⟨fun t k h => by simp at h, fun p e h => ?_⟩
       simp at h
       obtain ⟨rfl, rfl⟩ := h
       rfl
theorem run_parse (l : List UInt8) (h : l.length ≤ 262144) : (∃ ts, parseT l = (ts, 0, 0) ∧ runP (l.length + 1) l 0 [([], 0)] = .ok ts) ∨ ∃ p e, e ≠ 0 ∧ parseT l = ([], p, e) ∧ runP (l.length + 1) l 0 [([], 0)] = .bad p e := by
 have hf : runP (l.length + 1) l 0 [([], 0)] = runA l 0 [([], 0)] := by unfold runA; rfl
 rw [hf]
 unfold parseT
 rw [if_neg (by omega)]
 obtain ⟨r1, r2⟩ := (run_rows (2 * l.length + 2) l 0 0 [] 0 [] (by omega) rfl (by omega)).1 (by omega)
 have hbc := bad_codes (2 * l.length + 2) l 0 0
 cases hr : rowN (2 * l.length + 2) l 0 0 with
 | bad p e =>
  right
  refine ⟨p, e, ?_, rfl, r2 _ _ hr⟩
  rcases hbc.1 p e hr with rfl | rfl <;> decide
 | ok q =>
  obtain ⟨ts, j⟩ := q
  obtain ⟨g1, g2⟩ := r1 _ _ hr
  dsimp only
  rw [g1]
  by_cases hj : j < l.length
  · rw [if_pos hj]
    rcases g2 with g2 | g2
    · rw [List.getElem?_eq_none_iff] at g2; omega
    · right
      refine ⟨j, 20, by decide, rfl, ?_⟩
      rw [runA_some g2, if_neg (by decide), if_neg (by decide), if_pos rfl, if_pos (by simp)]
  · rw [if_neg hj]
    left
    refine ⟨ts, rfl, ?_⟩
    rw [runA_none (List.getElem?_eq_none (by omega)), if_neg (by simp)]
    simp
end
section
open Go.RowKit
mutual
theorem still_nrm : ∀ v : AV, v.pln = true → still v.nrm
 | .lit v, _ => still_lit v
 | .sl es t, h => still_rows (still_nrmRR es h)
 | .agg r, h => still_agg (still_nrmR r h)
 | .tup r, h => still_tup (still_nrmR r h)
 | .rsl es g, h => .rsl _ _ fun i j e d he hd => by
  rcases Nat.lt_or_ge i (nrmRR es).length with hl | hl
  · rw [List.getElem?_append_left hl] at he
    exact still_nrmRR es h e (List.mem_of_getElem? he) d (List.mem_of_getElem? hd)
  · rw [List.getElem?_append_right hl] at he
    exact room_bel he hd
 | .fn (.func _) f c, h => by
  rw [AV.pln, Bool.and_eq_true] at h
  obtain rfl := List.isEmpty_iff.1 h.1
  obtain rfl := List.isEmpty_iff.1 h.2
  exact .fn _ _ _ (fun j d hd => by simp at hd) fun j d hd => by simp at hd
 | .ptr .., h | .eptr .., h | .asl .., h | .mp .., h | .ifc .., h => by simp [AV.pln] at h
theorem still_nrmR : ∀ l : List AV, plnR l = true → ∀ d ∈ nrmR l, still d
 | [], _ => fun d hd => by cases hd
 | v :: l, h => fun d hd => by
  rw [plnR, Bool.and_eq_true] at h
  rw [nrmR] at hd
  rcases List.mem_cons.1 hd with rfl | hd
  · exact still_nrm v h.1
  · exact still_nrmR l h.2 d hd
theorem still_nrmRR : ∀ l : List (List AV), plnRR l = true → ∀ e ∈ nrmRR l, ∀ d ∈ e, still d
 | [], _ => fun d hd => by cases hd
 | v :: l, h => fun e he d hd => by
  rw [plnRR, Bool.and_eq_true] at h
  rw [nrmRR] at he
  rcases List.mem_cons.1 he with rfl | he
  · exact still_nrmR v h.1 d hd
  · exact still_nrmRR l h.2 e he d hd
end
theorem still_pn {v : AV} (h : v.pln = true) (hn : v.nrm = v) : still v := hn ▸ still_nrm v h
theorem d32_nrm (l : List Nat) : nrmRR (d32 l) = d32 l ∧ plnRR (d32 l) = true := by
 induction l with
 | nil => exact ⟨rfl, rfl⟩
 | cons a l ih =>
  simp only [d32, List.map_cons, nrmRR, plnRR] at ih ⊢
  rw [ih.1, ih.2]; exact ⟨rfl, rfl⟩
mutual
theorem rowV_nrm : ∀ v : Vl, nrmR (rowV v) = rowV v ∧ plnR (rowV v) = true
 | .mk k b d t n f => by
  have h1 := d32_nrm d
  have h2 := rowsV_nrm f
  simp only [rowV, nrmR, plnR, AV.nrm, AV.pln]
  rw [h1.1, h1.2, h2.1, h2.2]; exact ⟨rfl, rfl⟩
theorem rowsV_nrm : ∀ l : List Vl, nrmRR (rowsV l) = rowsV l ∧ plnRR (rowsV l) = true
 | [] => ⟨rfl, rfl⟩
 | v :: l => by
  have h1 := rowV_nrm v
  have h2 := rowsV_nrm l
  simp only [rowsV, nrmRR, plnRR]
  rw [h1.1, h1.2, h2.1, h2.2]; exact ⟨rfl, rfl⟩
end
theorem aggV_nrm (v : Vl) (t1 t2 : Tok) : (aggV v t1 t2).nrm = aggV v .no .no ∧ (aggV v t1 t2).pln = true := by
 obtain ⟨k, b, d, t, n, f⟩ := v
 have h1 := d32_nrm d
 have h2 := rowsV_nrm f
 simp only [aggV, nrmR, plnR, AV.nrm, AV.pln]
 rw [h1.1, h1.2, h2.1, h2.2]; exact ⟨rfl, rfl⟩
theorem aggV_still (v : Vl) : still (aggV v .no .no) := still_pn (aggV_nrm v .no .no).2 (aggV_nrm v .no .no).1
mutual
theorem rowOf_nrm : ∀ v : Tr, nrmR (rowOf v) = rowOf v ∧ plnR (rowOf v) = true
 | .mk x k r a => by
  have h2 := rowsOf_nrm k
  simp only [rowOf, nrmR, plnR, AV.nrm, AV.pln]
  rw [h2.1, h2.2]; exact ⟨rfl, rfl⟩
theorem rowsOf_nrm : ∀ l : List Tr, nrmRR (rowsOf l) = rowsOf l ∧ plnRR (rowsOf l) = true
 | [] => ⟨rfl, rfl⟩
 | v :: l => by
  have h1 := rowOf_nrm v
  have h2 := rowsOf_nrm l
  simp only [rowsOf, nrmRR, plnRR]
  rw [h1.1, h1.2, h2.1, h2.2]; exact ⟨rfl, rfl⟩
end
theorem strR_nrm (l : List (List UInt8)) : nrmRR (strR l) = strR l ∧ plnRR (strR l) = true := by
 induction l with
 | nil => exact ⟨rfl, rfl⟩
 | cons a l ih =>
  simp only [strR, List.map_cons, nrmRR, plnRR] at ih ⊢
  rw [ih.1, ih.2]; exact ⟨rfl, rfl⟩
theorem rowsC_nrm (l : List Con) : nrmRR (rowsC l) = rowsC l ∧ plnRR (rowsC l) = true := by
 induction l with
 | nil => exact ⟨rfl, rfl⟩
 | cons a l ih =>
  have h := strR_nrm a.2
  simp only [rowsC, List.map_cons, nrmRR, plnRR, rowC, nrmR, plnR, AV.nrm, AV.pln] at ih ⊢
  rw [ih.1, ih.2, h.1, h.2]; exact ⟨rfl, rfl⟩
theorem rowsD_nrm (l : List Data) : nrmRR (rowsD l) = rowsD l ∧ plnRR (rowsD l) = true := by
 induction l with
 | nil => exact ⟨rfl, rfl⟩
 | cons a l ih =>
  have h := rowsC_nrm a.2
  simp only [rowsD, List.map_cons, nrmRR, plnRR, rowD, nrmR, plnR, AV.nrm, AV.pln] at ih ⊢
  rw [ih.1, ih.2, h.1, h.2]; exact ⟨rfl, rfl⟩
theorem slD_still (l : List Data) : still (.sl (rowsD l) .no) := still_pn (rowsD_nrm l).2 (by rw [AV.nrm, (rowsD_nrm l).1])
theorem aggT_still (t : Tr) : still (.agg (rowOf t)) := still_pn (by rw [AV.pln]; exact (rowOf_nrm t).2) (by rw [AV.nrm, (rowOf_nrm t).1])
theorem slT_still (l : List Tr) : still (.sl (rowsOf l) .no) := still_pn (rowsOf_nrm l).2 (by rw [AV.nrm, (rowsOf_nrm l).1])
theorem bs_inj {a b : List UInt8} (h : bs a = bs b) : a = b := by rw [← bs_list a, h, bs_list]
theorem d32_inj : ∀ {a b : List Nat}, d32 a = d32 b → a = b
 | [], [], _ => rfl
 | [], _ :: _, h => by simp [d32] at h
 | _ :: _, [], h => by simp [d32] at h
 | x :: a, y :: b, h => by
  simp only [d32, List.map_cons, List.cons.injEq, AV.lit.injEq, Value.int.injEq, and_true, true_and] at h
  rw [d32_inj (a := a) (b := b) h.2]
  congr 1; omega
mutual
theorem rowV_inj : ∀ a b : Vl, rowV a = rowV b → a = b
 | .mk k b d t n f, .mk k' b' d' t' n' f', h => by
  simp only [rowV, List.cons.injEq, AV.lit.injEq, AV.sl.injEq, Value.string.injEq, Value.bool.injEq, Value.int.injEq, and_true, true_and] at h
  obtain ⟨h1, h2, h3, h4, h5, h6⟩ := h
  rw [h2, h4, d32_inj h3, bs_inj h5, rowsV_inj f f' h6]
  congr 1; omega
theorem rowsV_inj : ∀ a b : List Vl, rowsV a = rowsV b → a = b
 | [], [], _ => rfl
 | [], _ :: _, h => by simp [rowsV] at h
 | _ :: _, [], h => by simp [rowsV] at h
 | x :: a, y :: b, h => by
  simp only [rowsV, List.cons.injEq] at h
  rw [rowV_inj x y h.1, rowsV_inj a b h.2]
end
theorem aggV_inj {v w : Vl} (h : aggV v .no .no = aggV w .no .no) : v = w := by
 obtain ⟨k, b, d, t, n, f⟩ := v
 obtain ⟨k', b', d', t', n', f'⟩ := w
 unfold aggV at h
 rw [AV.agg.injEq] at h
 exact rowV_inj _ _ h
theorem ev_tells {f : FuncId} {args : List AV} {R : AV} (h : CallW Tryz.prog EV f args [] fun r σ' => ∃ v, r = .ret v ∧ v.pln = true ∧ v.nrm = R) (ha : ∀ d ∈ args, still d) (hR : still R) (σ : Sto) : Tells Tryz.prog (.call f args σ fun r σ' => Fgt σ r σ' (.ret R) σ) :=
 lift0 ha hR (J.tells (by kernel_rfl) EV_ok (.callMono (.callW h) fun r σ' hx => by
  obtain ⟨v, rfl, hp, hn⟩ := hx
  exact done (σ := []) (g := σ') hp hn)) σ
mutual
theorem IsTr.frz {g : Nat → Nat} {σ : Sto} : ∀ (row : List AV) (t : Tr), IsTr g σ row t → ∀ (j : Nat) (d' : AV), (rowOf t)[j]? = some d' → ∃ d, row[j]? = some d ∧ Frz σ 0 d d'
 | row, .mk x k r a, ⟨kv, h1, h2⟩ => by
  have hk : Frz σ 0 kv (.sl (rowsOf k) .no) := by
   rcases h2 with ⟨rfl, rfl⟩ | ⟨id, cs, rfl, h4, h5, h6⟩
   · exact .sl [] [] .full rfl (fun i e f h => by simp at h) fun i j e f d d' h => by simp at h
   · have hc := IsTrs.frz cs k h6
     refine .asl id 0 k.length 4 cs _ (rowsOf k) (fun i j => (cs[i * 4 + j]?).getD (.tup [])) h5 (Nat.zero_le _) (rowsOf_length k) (fun i f hf => ?_) (fun i j f d' hf hd => ?_) fun i j f d' hf hd => ?_
     · rw [rowsOf_map, List.getElem?_map, Option.map_eq_some_iff] at hf
       obtain ⟨⟨y, l, s, b⟩, _, rfl⟩ := hf
       rfl
     · obtain ⟨d, q1, q2⟩ := hc i j f d' hf hd
       rw [Nat.zero_add, q1]; rfl
     · obtain ⟨d, q1, q2⟩ := hc i j f d' hf hd
       show Frz σ 0 ((cs[i * 4 + j]?).getD (.tup [])) d'
       rw [q1]; exact q2
  subst h1
  intro j d' hd
  rw [rowOf] at hd
  rcases j with _ | _ | _ | _ | j
  · simp at hd; subst hd; exact ⟨_, rfl, Frz.still (still_lit _)⟩
  · simp at hd; subst hd; exact ⟨_, rfl, hk⟩
  · simp at hd; subst hd; exact ⟨_, rfl, Frz.still (still_lit _)⟩
  · simp at hd; subst hd; exact ⟨_, rfl, Frz.still (still_lit _)⟩
  · simp at hd
theorem IsTrs.frz {g : Nat → Nat} {σ : Sto} : ∀ (cs : List AV) (l : List Tr), IsTrs g σ cs l → ∀ (i j : Nat) (f : List AV) (d' : AV), (rowsOf l)[i]? = some f → f[j]? = some d' → ∃ d, cs[i * 4 + j]? = some d ∧ Frz σ 0 d d'
 | cs, [], h => fun i j f d' hf => by simp [rowsOf] at hf
 | cs, t :: l, ⟨row, rest, h1, h2, h3⟩ => by
  intro i j f d' hf hd
  have hl := IsTr.length h2
  rcases i with _ | i
  · simp [rowsOf] at hf; subst hf
    obtain ⟨d, q1, q2⟩ := IsTr.frz row t h2 j d' hd
    have := (List.getElem?_eq_some_iff.1 q1).1
    exact ⟨d, by rw [h1, List.getElem?_append_left (by omega)]; simpa using q1, q2⟩
  · simp [rowsOf] at hf
    obtain ⟨d, q1, q2⟩ := IsTrs.frz rest l h3 i j f d' hf hd
    refine ⟨d, ?_, q2⟩
    rw [h1, List.getElem?_append_right (by omega), hl, ← q1]
    congr 1; omega
end
theorem open_frz {g : Nat → Nat} {σ : Sto} {v : AV} {ts : List Tr} (h : OpenRow g σ v ts 0) : Frz σ 0 v (.sl (rowsOf ts) .no) := by
 rcases h with ⟨rfl, rfl⟩ | ⟨id, cs, rfl, h4, h5, h6⟩
 · exact .sl [] [] .full rfl (fun i e f h => by simp at h) fun i j e f d d' h => by simp at h
 · have hc := IsTrs.frz cs ts h6
   refine .asl id 0 ts.length 4 cs _ (rowsOf ts) (fun i j => (cs[i * 4 + j]?).getD (.tup [])) h5 (Nat.zero_le _) (rowsOf_length ts) (fun i f hf => ?_) (fun i j f d' hf hd => ?_) fun i j f d' hf hd => ?_
   · rw [rowsOf_map, List.getElem?_map, Option.map_eq_some_iff] at hf
     obtain ⟨⟨y, l, s, b⟩, _, rfl⟩ := hf
     rfl
   · obtain ⟨d, q1, q2⟩ := hc i j f d' hf hd
     rw [Nat.zero_add, q1]; rfl
   · obtain ⟨d, q1, q2⟩ := hc i j f d' hf hd
     show Frz σ 0 ((cs[i * 4 + j]?).getD (.tup [])) d'
     rw [q1]; exact q2
def lexV (s : List UInt8) : AV := .tup [.sl (rowsOf (parseT s).1) .no, .lit (.int .i64 (parseT s).2.1), .lit (.int .i64 (parseT s).2.2)]
abbrev lexF : FS := smF (fun s : List UInt8 => [.lit (.string (bs s))]) (fun s => lexV s) (fun s => s.length ≤ 262144) (fun _ => 0) 0
theorem lit_still {v : Value} : ∀ d ∈ [AV.lit v], still d := fun d hd => by rw [List.mem_singleton] at hd; subst hd; exact still_lit v
theorem tup2_still {a b c : AV} (ha : still a) (hb : still b) (hc : still c) : still (.tup [a, b, c]) := still_tup fun d hd => by
 rcases List.mem_cons.1 hd with rfl | hd
 · exact ha
 rcases List.mem_cons.1 hd with rfl | hd
 · exact hb
 rcases List.mem_cons.1 hd with rfl | hd
 · exact hc
 · cases hd
variable {S : Sp} {N : Nat}
theorem lexRef_w : SmOk Tryz.prog S N 29 (fun s : List UInt8 => [.lit (.string (bs s))]) (fun s => lexV s) (fun s => s.length ≤ 262144) (fun _ => 0) 0 := by
 intro s σ hs hN
 refine .semC (lift0 lit_still (tup2_still (slT_still _) (still_lit _) (still_lit _)) (J.tells (by kernel_rfl) EL_ok (.callMono (refParse_ev s [] hs _ rfl) fun r σ' hx => ?_)) σ)
 obtain ⟨_, _, hx⟩ := hx
 show Fgt [] r σ' (.ret (lexV s)) []
 unfold lexV
 rcases run_parse s hs with ⟨ts, h1, h2⟩ | ⟨p, e, _, h1, h2⟩
 · rw [h2] at hx
   obtain ⟨g, v, rfl, ho⟩ := hx
   rw [h1]
   refine Fgt.pure ⟨σ', rfl⟩ (.tup _ _ rfl fun j d d' hd hd' => ?_)
   rcases j with _ | _ | _ | j
   · simp at hd hd'; subst hd; subst hd'; exact open_frz ho
   · simp at hd hd'; subst hd; subst hd'; exact Frz.still (still_lit _)
   · simp at hd hd'; subst hd; subst hd'; exact Frz.still (still_lit _)
   · simp at hd
 · rw [h2] at hx
   have hx : r = .ret (.tup [.sl [] .full, .lit (.int .i64 p), .lit (.int .i64 e)]) := hx
   subst hx
   rw [h1]
   exact done (σ := []) (g := σ') rfl rfl
end
section
open Go.RowKit
def dsL : List Data := [([108, 105, 115, 116], [([110, 105, 108], []), ([99, 111, 110, 115], [[105, 110, 116], [108, 105, 115, 116]])]), ([98], [([111, 102], [[98, 111, 111, 108]])])]
def dsB (b : Bool) : List Data := if b then dsL else []
def strL : List (List UInt8) := [[], [53], [45, 53], [48, 53], [116, 114, 117, 101], [102, 97, 108, 115, 101], [110, 105, 108], [40, 110, 105, 108, 41], [40, 41], [40, 99, 111, 110, 115, 32, 49, 32, 40, 110, 105, 108, 41, 41], [40, 99, 111, 110, 115, 32, 49, 32, 40, 41, 41], [40, 99, 111, 110, 115, 32, 116, 114, 117, 101, 32, 40, 110, 105, 108, 41, 41], [40, 99, 111, 110, 115, 32, 49, 41], [40, 99, 111, 110, 115, 32, 49, 32, 40, 110, 105, 108, 41, 32, 50, 41], [40, 111, 102, 32, 116, 114, 117, 101, 41], [40, 111, 102, 32, 49, 41], [40, 111, 102, 32, 40, 111, 102, 32, 116, 114, 117, 101, 41, 41], [40, 40, 110, 105, 108, 41, 41], [40, 53, 41], [49, 32, 50], [40, 99, 111, 110, 115, 32, 49, 32, 40, 99, 111, 110, 115, 32, 50, 32, 40, 99, 111, 110, 115, 32, 51, 32, 40, 110, 105, 108, 41, 41, 41, 41], [40], [120], [40, 110, 111, 32, 49, 41]]
def srtL : List (List UInt8) := [[105, 110, 116], [98, 111, 111, 108], [108, 105, 115, 116], [98], [110, 111], []]
def strA (i : Nat) : List UInt8 := strL.getD i []
def srtA (k : Nat) : List UInt8 := srtL.getD k []
def readR (ds : List Data) (t : Tr) : AV := .tup [aggV (if (valT ds t).2 then (valT ds t).1 else zeroV) .no .no, .lit (.bool (valT ds t).2)]
def treeA (i : Nat) : Option Tr := match parseT (strA i) with | ([t], _, e) => if e = 0 then some t else none | _ => none
noncomputable def readAll (i : Nat) : Bool := [true, false].all fun b => match treeA i with | some t => runIs 30 [.sl (rowsD (dsB b)) .no, .agg (rowOf t)] (readR (dsB b) t) | none => true
noncomputable def ofAll (i : Nat) : Bool := [true, false].all fun b => match treeA i with | some t => !(valT (dsB b) t).2 || ((List.range 6).all fun k => runIs 31 [.sl (rowsD (dsB b)) .no, .lit (.string (bs (srtA k))), aggV (valT (dsB b) t).1 .no .no] (.lit (.bool (ofV (dsB b) (srtA k) (valT (dsB b) t).1)))) | none => true
set_option maxRecDepth 100000
theorem rd0 : readAll 0 = true := by decide +kernel
theorem rd1 : readAll 1 = true := by decide +kernel
theorem rd2 : readAll 2 = true := by decide +kernel
theorem rd3 : readAll 3 = true := by decide +kernel
theorem rd4 : readAll 4 = true := by decide +kernel
theorem rd5 : readAll 5 = true := by decide +kernel
theorem rd6 : readAll 6 = true := by decide +kernel
theorem rd7 : readAll 7 = true := by decide +kernel
theorem rd8 : readAll 8 = true := by decide +kernel
theorem rd9 : readAll 9 = true := by decide +kernel
theorem rd10 : readAll 10 = true := by decide +kernel
theorem rd11 : readAll 11 = true := by decide +kernel
theorem rd12 : readAll 12 = true := by decide +kernel
theorem rd13 : readAll 13 = true := by decide +kernel
theorem rd14 : readAll 14 = true := by decide +kernel
theorem rd15 : readAll 15 = true := by decide +kernel
theorem rd16 : readAll 16 = true := by decide +kernel
theorem rd17 : readAll 17 = true := by decide +kernel
theorem rd18 : readAll 18 = true := by decide +kernel
theorem rd19 : readAll 19 = true := by decide +kernel
theorem rd20 : readAll 20 = true := by decide +kernel
theorem rd21 : readAll 21 = true := by decide +kernel
theorem rd22 : readAll 22 = true := by decide +kernel
theorem rd23 : readAll 23 = true := by decide +kernel
theorem od0 : ofAll 0 = true := by decide +kernel
theorem od1 : ofAll 1 = true := by decide +kernel
theorem od2 : ofAll 2 = true := by decide +kernel
theorem od3 : ofAll 3 = true := by decide +kernel
theorem od4 : ofAll 4 = true := by decide +kernel
theorem od5 : ofAll 5 = true := by decide +kernel
theorem od6 : ofAll 6 = true := by decide +kernel
theorem od7 : ofAll 7 = true := by decide +kernel
theorem od8 : ofAll 8 = true := by decide +kernel
theorem od9 : ofAll 9 = true := by decide +kernel
theorem od10 : ofAll 10 = true := by decide +kernel
theorem od11 : ofAll 11 = true := by decide +kernel
theorem od12 : ofAll 12 = true := by decide +kernel
theorem od13 : ofAll 13 = true := by decide +kernel
theorem od14 : ofAll 14 = true := by decide +kernel
theorem od15 : ofAll 15 = true := by decide +kernel
theorem od16 : ofAll 16 = true := by decide +kernel
theorem od17 : ofAll 17 = true := by decide +kernel
theorem od18 : ofAll 18 = true := by decide +kernel
theorem od19 : ofAll 19 = true := by decide +kernel
theorem od20 : ofAll 20 = true := by decide +kernel
theorem od21 : ofAll 21 = true := by decide +kernel
theorem od22 : ofAll 22 = true := by decide +kernel
theorem od23 : ofAll 23 = true := by decide +kernel
theorem read_all : ∀ i, i < 24 → readAll i = true
 | 0, _ => rd0
 | 1, _ => rd1
 | 2, _ => rd2
 | 3, _ => rd3
 | 4, _ => rd4
 | 5, _ => rd5
 | 6, _ => rd6
 | 7, _ => rd7
 | 8, _ => rd8
 | 9, _ => rd9
 | 10, _ => rd10
 | 11, _ => rd11
 | 12, _ => rd12
 | 13, _ => rd13
 | 14, _ => rd14
 | 15, _ => rd15
 | 16, _ => rd16
 | 17, _ => rd17
 | 18, _ => rd18
 | 19, _ => rd19
 | 20, _ => rd20
 | 21, _ => rd21
 | 22, _ => rd22
 | 23, _ => rd23
 | i + 24, h => by omega
theorem of_all : ∀ i, i < 24 → ofAll i = true
 | 0, _ => od0
 | 1, _ => od1
 | 2, _ => od2
 | 3, _ => od3
 | 4, _ => od4
 | 5, _ => od5
 | 6, _ => od6
 | 7, _ => od7
 | 8, _ => od8
 | 9, _ => od9
 | 10, _ => od10
 | 11, _ => od11
 | 12, _ => od12
 | 13, _ => od13
 | 14, _ => od14
 | 15, _ => od15
 | 16, _ => od16
 | 17, _ => od17
 | 18, _ => od18
 | 19, _ => od19
 | 20, _ => od20
 | 21, _ => od21
 | 22, _ => od22
 | 23, _ => od23
 | i + 24, h => by omega
end
section
open Go.RowKit
variable {S : Sp} {N : Nat}
theorem dsB_inj {a b : Bool} (h : rowsD (dsB a) = rowsD (dsB b)) : a = b := by
 have := congrArg List.length h
 rw [rowsD_len, rowsD_len] at this
 revert this
 cases a <;> cases b <;> decide
theorem tree_of {i : Nat} {t : Tr} (h1 : (parseT (strA i)).1 = [t]) (h2 : (parseT (strA i)).2.2 = 0) : treeA i = some t := by
 unfold treeA
 generalize parseT (strA i) = q at h1 h2
 obtain ⟨l, p, e⟩ := q
 subst h1; subst h2
 rfl
theorem read_run {b : Bool} {i : Nat} {t : Tr} (hi : i < 24) (ht : treeA i = some t) : runIs 30 [.sl (rowsD (dsB b)) .no, .agg (rowOf t)] (readR (dsB b) t) = true := by
 have h := read_all i hi
 unfold readAll at h
 rw [ht] at h
 have := List.all_eq_true.1 h b (by cases b <;> simp)
 exact this
theorem of_run {b : Bool} {i k : Nat} {t : Tr} (hi : i < 24) (hk : k < 6) (ht : treeA i = some t) (hv : (valT (dsB b) t).2 = true) : runIs 31 [.sl (rowsD (dsB b)) .no, .lit (.string (bs (srtA k))), aggV (valT (dsB b) t).1 .no .no] (.lit (.bool (ofV (dsB b) (srtA k) (valT (dsB b) t).1))) = true := by
 have h := of_all i hi
 unfold ofAll at h
 rw [ht] at h
 have h := List.all_eq_true.1 h b (by cases b <;> simp)
 dsimp only at h
 rw [hv, Bool.not_true, Bool.false_or] at h
 exact List.all_eq_true.1 h k (List.mem_range.2 hk)
abbrev readF : FS := smF (fun p : Bool × Tr => [.sl (rowsD (dsB p.1)) .no, .agg (rowOf p.2)]) (fun p => readR (dsB p.1) p.2) (fun p => ∃ i, i < 24 ∧ treeA i = some p.2) (fun _ => 0) 0
abbrev ofF : FS := smF (fun p : Bool × List UInt8 × Vl => [.sl (rowsD (dsB p.1)) .no, .lit (.string (bs p.2.1)), aggV p.2.2 .no .no]) (fun p => .lit (.bool (ofV (dsB p.1) p.2.1 p.2.2))) (fun p => ∃ i k t, i < 24 ∧ k < 6 ∧ treeA i = some t ∧ p.2.1 = srtA k ∧ valT (dsB p.1) t = (p.2.2, true)) (fun _ => 0) 0
theorem read_inj (a b : Bool × Tr) (e : [AV.sl (rowsD (dsB a.1)) .no, .agg (rowOf a.2)] = [.sl (rowsD (dsB b.1)) .no, .agg (rowOf b.2)]) : a = b := by
 obtain ⟨a1, a2⟩ := a; obtain ⟨b1, b2⟩ := b
 simp only [List.cons.injEq, AV.agg.injEq, AV.sl.injEq, and_true] at e
 rw [dsB_inj e.1, rowOf_inj _ _ e.2]
theorem of_inj (a b : Bool × List UInt8 × Vl) (e : [AV.sl (rowsD (dsB a.1)) .no, .lit (.string (bs a.2.1)), aggV a.2.2 .no .no] = [.sl (rowsD (dsB b.1)) .no, .lit (.string (bs b.2.1)), aggV b.2.2 .no .no]) : a = b := by
 obtain ⟨a1, a2, a3⟩ := a; obtain ⟨b1, b2, b3⟩ := b
 simp only [List.cons.injEq, AV.lit.injEq, Value.string.injEq, AV.sl.injEq, and_true] at e
 rw [dsB_inj e.1, bs_inj e.2.1, aggV_inj e.2.2]
theorem read_w : SmOk Tryz.prog S N 30 (fun p : Bool × Tr => [.sl (rowsD (dsB p.1)) .no, .agg (rowOf p.2)]) (fun p => readR (dsB p.1) p.2) (fun p => ∃ i, i < 24 ∧ treeA i = some p.2) (fun _ => 0) 0 := by
 rintro ⟨b, t⟩ σ ⟨i, hi, ht⟩ hN
 refine .semC (runIs_tells (read_run hi ht) (fun d hd => ?_) σ)
 rcases List.mem_cons.1 hd with rfl | hd
 · exact slD_still _
 rcases List.mem_cons.1 hd with rfl | hd
 · exact aggT_still _
 · cases hd
theorem of_w : SmOk Tryz.prog S N 31 (fun p : Bool × List UInt8 × Vl => [.sl (rowsD (dsB p.1)) .no, .lit (.string (bs p.2.1)), aggV p.2.2 .no .no]) (fun p => .lit (.bool (ofV (dsB p.1) p.2.1 p.2.2))) (fun p => ∃ i k t, i < 24 ∧ k < 6 ∧ treeA i = some t ∧ p.2.1 = srtA k ∧ valT (dsB p.1) t = (p.2.2, true)) (fun _ => 0) 0 := by
 rintro ⟨b, s, v⟩ σ ⟨i, k, t, hi, hk, ht, hs, hv⟩ hN
 dsimp only at hs hv ⊢
 subst hs
 have hr := of_run (b := b) hi hk ht (by rw [hv])
 rw [hv] at hr
 refine .semC (runIs_tells hr (fun d hd => ?_) σ)
 rcases List.mem_cons.1 hd with rfl | hd
 · exact slD_still _
 rcases List.mem_cons.1 hd with rfl | hd
 · exact still_lit _
 rcases List.mem_cons.1 hd with rfl | hd
 · exact aggV_still _
 · cases hd
theorem lex_inj (a b : List UInt8) (e : [AV.lit (.string (bs a))] = [AV.lit (.string (bs b))]) : a = b := by
 simp only [List.cons.injEq, AV.lit.injEq, Value.string.injEq, and_true] at e
 exact bs_inj e
theorem strA_len {i : Nat} (h : i < 24) : (strA i).length ≤ 100 := by
 have : (List.range 24).all (fun i => decide ((strA i).length ≤ 100)) = true := by decide +kernel
 exact of_decide_eq_true (List.all_eq_true.1 this i (List.mem_range.2 h))
def pvR (b : Bool) (k i : Nat) : AV := .tup [aggV (parseV (dsB b) (srtA k) (strA i)).1 .no .no, .lit (.bool (parseV (dsB b) (srtA k) (strA i)).2)]
abbrev pvF : FS := smF (fun p : Bool × Nat × Nat => [.sl (rowsD (dsB p.1)) .no, .lit (.string (bs (srtA p.2.1))), .lit (.string (bs (strA p.2.2)))]) (fun p => pvR p.1 p.2.1 p.2.2) (fun p => p.2.1 < 6 ∧ p.2.2 < 24) (fun _ => 0) 1
theorem vRef_w (hc : S.code = codeP Tryz.prog) (hm : S.ms 13 = []) (hl : S.sp 29 = some lexF) (hr : S.sp 30 = some readF) (ho : S.sp 31 = some ofF) :
    SmOk Tryz.prog S N 13 (fun p : Bool × Nat × Nat => [.sl (rowsD (dsB p.1)) .no, .lit (.string (bs (srtA p.2.1))), .lit (.string (bs (strA p.2.2)))]) (fun p => pvR p.1 p.2.1 p.2.2) (fun p => p.2.1 < 6 ∧ p.2.2 < 24) (fun _ => 0) 1 := by
 rintro ⟨b, k, i⟩ σ ⟨hk, hi⟩ hN
 dsimp only at hk hi hN ⊢
 have hN0 : 16 * 0 + 0 < N := by omega
 refine JC.startF (fn := Tryz.f13) (codeOf hc Tryz.func13 rfl (by kernel_rfl)) rfl hm rfl (zL rfl) fun tm => ?_
 refine CW.hide fun R0 hR0 => ?_
 have hln := strA_len hi
 have hti := fun t h1 h2 => tree_of (i := i) (t := t) h1 h2
 have hdn := (rowsD_nrm (dsB b)).1
 have hrd := fun t (h : treeA i = some t) => (⟨i, hi, h⟩ : ∃ i, i < 24 ∧ treeA i = some (b, t).2)
 have hof := fun t v (h : treeA i = some t) (h2 : valT (dsB b) t = (v, true)) => (⟨i, k, t, hi, hk, h, rfl, h2⟩ : ∃ i' k' t', i' < 24 ∧ k' < 6 ∧ treeA i' = some t' ∧ ((b, srtA k, v) : Bool × List UInt8 × Vl).2.1 = srtA k' ∧ valT (dsB ((b, srtA k, v) : Bool × List UInt8 × Vl).1) t' = (((b, srtA k, v) : Bool × List UInt8 × Vl).2.2, true))
 have lxk : lexV (strA i) = .tup [.sl (rowsOf (parseT (strA i)).1) .no, .lit (.int .i64 (parseT (strA i)).2.1), .lit (.int .i64 (parseT (strA i)).2.2)] := rfl
 unfold pvR at hR0
 unfold parseV at hR0
 generalize hs : strA i = s at hln hti lxk hR0
 have hti : ∀ t, (parseT s).1 = [t] → (parseT s).2.2 = 0 → treeA i = some t := fun t h1 h2 => hti t h1 h2
 generalize hpt : parseT s = q at hti lxk hR0
 obtain ⟨ts, pos, e⟩ := q
 dsimp only at hti lxk hR0
 generalize srtA k = so at hof hR0
 refine CW.seqK fun K hK => CW.region ?_
 simp (maxDischargeDepth := 16) [zY]
 refine hK _ _ ?_; clear hK K
 refine CW.seqK fun K hK => CW.region ?_
 simp (maxDischargeDepth := 16) [zY]
 refine call_sm s hl lex_inj (by simp [nrmR, AV.nrm]) (by omega) hN0 fun _ => ?_
 simp (maxDischargeDepth := 16) [zY, lxk]
 refine hK _ _ ?_; clear hK K
 have hz : aggV zeroV .no .no = .agg [.lit (.int .u8 0), .lit (.bool false), .sl [] .no, .lit (.bool false), .lit (.string ⟨#[]⟩), .sl [] .no] := rfl
 refine CW.seqK fun K hK => CW.seqK fun K2 hK2 => CW.region ?_
 rcases Classical.em (e = 0) with he | he
 rotate_left
 · rw [if_neg he, hz] at hR0
   simp (maxDischargeDepth := 16) [zY, he]
   refine hK2 _ _ ?_; clear hK2 K2
   refine CW.cond (t := true) (by simp [zT, zF, lk]) ?_
   refine CW.seqK fun K hK => CW.region ?_
   simp (maxDischargeDepth := 16) [zY]
   refine hK _ _ ?_; clear hK K
   refine CW.ret (hR0 _ _ _ ?_)
   refine ⟨.tup [.agg [.lit (.int .u8 0), .lit (.bool false), .sl [] .full, .lit (.bool false), .lit (.string ⟨#[]⟩), .sl [] .full], .lit (.bool false)], ?_, done rfl rfl⟩
   simp [zA, omap, zC, zB, zX]
 subst he
 rw [if_pos rfl] at hR0
 have hlen : ((rowsOf ts).length : Int) = (ts.length : Int) := by rw [rowsOf_length]
 rcases ts with _ | ⟨t, _ | ⟨u, l⟩⟩
 · dsimp only at hR0
   rw [hz] at hR0
   simp only [rowsOf]
   simp (maxDischargeDepth := 16) [zY]
   refine hK2 _ _ ?_; clear hK2 K2
   refine CW.cond (t := true) (by simp [zT, zF, lk]) ?_
   refine CW.seqK fun K hK => CW.region ?_
   simp (maxDischargeDepth := 16) [zY]
   refine hK _ _ ?_; clear hK K
   refine CW.ret (hR0 _ _ _ ?_)
   refine ⟨.tup [.agg [.lit (.int .u8 0), .lit (.bool false), .sl [] .full, .lit (.bool false), .lit (.string ⟨#[]⟩), .sl [] .full], .lit (.bool false)], ?_, done rfl rfl⟩
   simp [zA, omap, zC, zB, zX]
 rotate_left
 · dsimp only at hR0
   rw [hz] at hR0
   have q1 : ((rowsOf (t :: u :: l)).length : Int) = 1 ↔ False := by
    rw [rowsOf_length, List.length_cons, List.length_cons]
    exact ⟨fun h => by omega, fun h => h.elim⟩
   generalize rowsOf (t :: u :: l) = rs at *
   simp (maxDischargeDepth := 16) [zY, q1]
   refine hK2 _ _ ?_; clear hK2 K2
   refine CW.cond (t := true) (by simp [zT, zF, lk, q1]) ?_
   refine CW.seqK fun K hK => CW.region ?_
   simp (maxDischargeDepth := 16) [zY]
   refine hK _ _ ?_; clear hK K
   refine CW.ret (hR0 _ _ _ ?_)
   refine ⟨.tup [.agg [.lit (.int .u8 0), .lit (.bool false), .sl [] .full, .lit (.bool false), .lit (.string ⟨#[]⟩), .sl [] .full], .lit (.bool false)], ?_, done rfl rfl⟩
   simp [zA, omap, zC, zB, zX]
 dsimp only at hR0
 have ht := hti t rfl rfl
 have hnr := rowOf_nrm t
 have hrw : rowsOf [t] = [rowOf t] := rfl
 have hrl : (rowOf t).length = 4 := by cases t; rfl
 have htk : (rowOf t).take 4 = rowOf t := List.take_of_length_le (by omega)
 rw [hrw]
 simp (maxDischargeDepth := 16) [zY]
 refine hK2 _ _ ?_; clear hK2 K2
 refine CW.cond (t := false) (by simp [zT, zF, lk]) ?_
 refine CW.skip (hK _ _ ?_); clear hK K
 refine CW.keep [0, 1, 6, 7, 8] fun tm => ?_
 simp only [sel, List.contains_cons, List.contains_nil, Bool.or_false, Nat.reduceBEq, Bool.false_eq_true, if_false, if_true, Bool.or_true, Bool.true_or]
 refine CW.seqK fun K hK => CW.region ?_
 simp (maxDischargeDepth := 16) [zY, hrl, htk]
 refine call_sm (b, t) hr read_inj (by simp only [nrmR, AV.nrm, hdn, hnr.1]) (hrd t ht) hN0 fun _ => ?_
 unfold readR
 dsimp only
 have hofr := hof t
 generalize hvt : valT (dsB b) t = vt at *
 obtain ⟨v, ok⟩ := vt
 dsimp only at hR0 ⊢
 cases ok with
 | false =>
  rw [show (if ((false : Bool) && ofV (dsB b) so v) = true then (v, true) else (zeroV, false)) = (zeroV, false) from rfl, hz] at hR0
  rw [if_neg (by decide), hz]
  simp (maxDischargeDepth := 16) [zY]
  refine hK _ _ ?_; clear hK K
  refine CW.seqK fun K hK => CW.seqK fun K2 hK2 => CW.region ?_
  simp (maxDischargeDepth := 16) [zY]
  refine hK2 _ _ ?_; clear hK2 K2
  refine CW.cond (t := true) (by simp [zT, zF, lk]) ?_
  refine CW.seqK fun K hK => CW.region ?_
  simp (maxDischargeDepth := 16) [zY]
  refine hK _ _ ?_; clear hK K
  refine CW.ret (hR0 _ _ _ ?_)
  refine ⟨.tup [.agg [.lit (.int .u8 0), .lit (.bool false), .sl [] .full, .lit (.bool false), .lit (.string ⟨#[]⟩), .sl [] .full], .lit (.bool false)], ?_, done rfl rfl⟩
  simp [zA, omap, zC, zB, zX]
 | true =>
  rw [if_pos rfl]
  have hvn := (aggV_nrm v .no .no).1
  have hof2 := hofr v ht rfl
  rw [show (((true : Bool) && ofV (dsB b) so v)) = ofV (dsB b) so v from rfl] at hR0
  obtain ⟨vk, vb, vd, vtt, vn, vf⟩ := v
  unfold aggV at hvn ⊢
  dsimp only at hvn ⊢
  simp (maxDischargeDepth := 16) [zY]
  refine hK _ _ ?_; clear hK K
  refine CW.seqK fun K hK => CW.seqK fun K2 hK2 => CW.region ?_
  cases hov : ofV (dsB b) so (.mk vk vb vd vtt vn vf) with
  | false =>
   rw [hov, if_neg (by decide), hz] at hR0
   simp (maxDischargeDepth := 16) [zY]
   refine call_sm (b, so, .mk vk vb vd vtt vn vf) ho of_inj (by simp only [nrmR, hvn]; simp only [AV.nrm, hdn]; rfl) hof2 hN0 fun _ => ?_
   simp (maxDischargeDepth := 16) [zY, hov]
   refine hK2 _ _ ?_; clear hK2 K2
   refine CW.cond (t := true) (by simp [zT, zF, lk]) ?_
   refine CW.seqK fun K hK => CW.region ?_
   simp (maxDischargeDepth := 16) [zY]
   refine hK _ _ ?_; clear hK K
   refine CW.ret (hR0 _ _ _ ?_)
   refine ⟨.tup [.agg [.lit (.int .u8 0), .lit (.bool false), .sl [] .full, .lit (.bool false), .lit (.string ⟨#[]⟩), .sl [] .full], .lit (.bool false)], ?_, done rfl rfl⟩
   simp [zA, omap, zC, zB, zX]
  | true =>
   rw [hov, if_pos rfl] at hR0
   unfold aggV at hR0
   simp (maxDischargeDepth := 16) [zY]
   refine call_sm (b, so, .mk vk vb vd vtt vn vf) ho of_inj (by simp only [nrmR, hvn]; simp only [AV.nrm, hdn]; rfl) hof2 hN0 fun _ => ?_
   simp (maxDischargeDepth := 16) [zY, hov]
   refine hK2 _ _ ?_; clear hK2 K2
   refine CW.cond (t := false) (by simp [zT, zF, lk]) ?_
   refine CW.skip (hK _ _ ?_); clear hK K
   refine CW.seqK fun K hK => CW.region ?_
   simp (maxDischargeDepth := 16) [zY]
   refine hK _ _ ?_; clear hK K
   refine CW.ret (hR0 _ _ _ ?_)
   refine ⟨.tup [.agg [.lit (.int .u8 vk), .lit (.bool vb), .sl (d32 vd) .no, .lit (.bool vtt), .lit (.string (bs vn)), .sl (rowsV vf) .no], .lit (.bool true)], ?_, ?_⟩
   · simp [zA, omap, zC, zB, zX]
   · refine done ?_ ?_
     · have := (aggV_nrm (.mk vk vb vd vtt vn vf) .no .no).2
       unfold aggV at this
       simp only [AV.pln, plnR] at this ⊢
       simpa using this
     · have := (aggV_nrm (.mk vk vb vd vtt vn vf) .no .no).1
       unfold aggV at this
       dsimp only at this
       rw [AV.nrm, nrmR, nrmR, nrmR, this]
       rfl
end
section
open Go.RowKit
variable {S : Sp} {N : Nat}
def txtK (k : Nat) : List UInt8 := if k = 1 then [48] else if k = 2 then [102, 97, 108, 115, 101] else if k = 3 then [40, 41] else []
theorem rtext_run : ∀ k, k < 6 → runIs 15 [val0 k] (.lit (.string (bs (txtK k)))) = true
 | 0, _ => by decide +kernel
 | 1, _ => by decide +kernel
 | 2, _ => by decide +kernel
 | 3, _ => by decide +kernel
 | 4, _ => by decide +kernel
 | 5, _ => by decide +kernel
 | k + 6, h => by omega
def twoV (k : Nat) : AV := .sl [rowV (zeroK k), rowV (zeroK k)] .no
theorem size_run : ∀ k, k < 6 → runIs 8 [twoV k] (.lit (.int .i64 2)) = true
 | 0, _ => by decide +kernel
 | 1, _ => by decide +kernel
 | 2, _ => by decide +kernel
 | 3, _ => by decide +kernel
 | 4, _ => by decide +kernel
 | 5, _ => by decide +kernel
 | k + 6, h => by omega
theorem rsize_run : ∀ k, k < 6 → runIs 16 [twoV k] (.lit (.int .i64 2)) = true
 | 0, _ => by decide +kernel
 | 1, _ => by decide +kernel
 | 2, _ => by decide +kernel
 | 3, _ => by decide +kernel
 | 4, _ => by decide +kernel
 | 5, _ => by decide +kernel
 | k + 6, h => by omega
theorem vals_run : ∀ k, k < 6 → runIs 10 [.sl [rowV (zeroK k)] .no, intV 300] (intV 1) = true
 | 0, _ => by decide +kernel
 | 1, _ => by decide +kernel
 | 2, _ => by decide +kernel
 | 3, _ => by decide +kernel
 | 4, _ => by decide +kernel
 | 5, _ => by decide +kernel
 | k + 6, h => by omega
theorem datas_run : ∀ b : Bool, runIs 9 [.sl (rowsD (dsB b)) .no, intV 300] (intV (if b then 8 else 0)) = true
 | true => by decide +kernel
 | false => by decide +kernel
end
end Go.Proofs.YtmmgjaheffbpaaaGreatDoor
