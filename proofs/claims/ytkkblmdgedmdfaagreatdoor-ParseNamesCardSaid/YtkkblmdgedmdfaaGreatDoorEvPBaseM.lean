/-
 EV: parse: fault, kid, head, skip.
-/
import Derived.Test.YtkkblmdgedmdfaaGreatDoorEvPrimsM
namespace Go.Proofs.YtkkblmdgedmdfaaGreatDoor
set_option linter.unusedSimpArgs false
set_option linter.unusedVariables false
section
open Go.RowKit
theorem CW.reset2 {P : Program} {E : Env} {M : List TypeId} {c : Code} {tm : List AV} {σ : Sto} {R : AExit → List AV → Sto → Prop} (Q : List AV → Sto → Prop) (h : Q tm σ) (k : ∀ tm σ, Q tm σ → CW P E M c tm σ R) : CW P E M c tm σ R := k _ _ h
theorem get_app {σ : Sto} {x : AObj} {l : List AObj} {id : Nat} (h : σ[id]? = some x) : (σ ++ l)[id]? = some x := by
 rw [List.getElem?_append_left (List.getElem?_eq_some_iff.1 h).1, h]
theorem get_new (σ : Sto) (x : AObj) (l : List AObj) : (σ ++ x :: l)[σ.length]? = some x := by
 rw [List.getElem?_append_right (Nat.le_refl _), Nat.sub_self]; rfl
theorem lt_of_obj {σ : Sto} {x : AObj} {id : Nat} (h : σ[id]? = some x) : id < σ.length := (List.getElem?_eq_some_iff.1 h).1
theorem Ext.setL {σ σ' : Sto} (h : Ext σ σ') {id : Nat} (hid : id < σ.length) (o : AObj) : Ext (σ.set id o) (σ'.set id o) := by
 obtain ⟨g, rfl⟩ := h
 exact ⟨g, by rw [List.set_append_left _ _ hid]⟩
def nodeO (t : Tr) (fid : Nat) : AObj := .cells [.lit (.string (bs t.word)), .sl (rowsOf t.kids) .no, .lit (.bool t.row), .lit (.int .i64 t.at_), .ptr fid 0] 57
theorem nodeA_eq (t : Tr) (fid : Nat) : nodeA t fid = .agg [.lit (.string (bs t.word)), .sl (rowsOf t.kids) .no, .lit (.bool t.row), .lit (.int .i64 t.at_), .ptr fid 0] := by
 unfold nodeA; rw [rowOf_get]; rfl
set_option maxRecDepth 100000 in
theorem fault_ev (N : Nat) (t : Tr) (fid : Nat) (σ : Sto) (hc : σ[fid]? = some cleanO) : CallW Tryz.prog (EN N) 55 [nodeA t fid] σ fun r σ' => r = .ret (.tup []) ∧ Ext (setF σ fid (some t.at_)) σ' := by
 refine CallW.start (fn := Tryz.f55) (M := []) rfl rfl rfl rfl (by simp) fun tm hlen hs => ?_
 have h0 := hs 0 _ rfl
 clear hs
 rw [nodeA_eq] at h0
 simp at hlen
 refine CW.hide fun R0 hR0 => ?_
 refine CW.seqK fun K hK => CW.region ?_
 simp (maxDischargeDepth := 16) [symB, List.length_set, andThen, hlen, h0]
 refine hK _ _ ?_; clear hK K
 refine CW.reset2 (fun tm σ1 => tm.length = 19 ∧ slot tm 1 = .ptr σ.length 0 ∧ σ1 = σ ++ [nodeO t fid]) ⟨by simp [hlen], by simp [slot_eq, slot_ne, hlen], rfl⟩ ?_
 clear h0 hlen tm
 rintro tm σ1 ⟨hlen, h1, rfl⟩
 have hb : (σ ++ [nodeO t fid])[σ.length]? = some (.cells [.lit (.string (bs t.word)), .sl (rowsOf t.kids) .no, .lit (.bool t.row), .lit (.int .i64 t.at_), .ptr fid 0] 57) := get_new _ _ _
 have hf : (σ ++ [nodeO t fid])[fid]? = some (.cells [.lit (.bool false), .lit (.int .i64 0)] 53) := get_app hc
 have hl := lt_of_obj hc
 have hx : Ext (setF σ fid (some t.at_)) ((σ ++ [nodeO t fid]).set fid (badO t.at_)) := Ext.setL ⟨_, rfl⟩ hl _
 have hfl := lt_of_obj hf
 generalize σ ++ [nodeO t fid] = σ1 at *
 have hne : σ.length ≠ fid := by omega
 have hset : ∀ o, (σ1.set fid o)[fid]? = some o := fun o => List.getElem?_set_self hfl
 refine CW.seqK fun K hK => CW.region ?_
 simp (maxDischargeDepth := 16) [symB, List.length_set, andThen, hlen, h1, hb, hf]
 refine hK _ _ ?_; clear hK K
 refine CW.cond (t := true) (by simp [evx_tmp, slot_eq, slot_ne, hlen]) ?_
 refine CW.draw (by kernel_rfl) ?_
 simp (maxDischargeDepth := 16) [symB, List.length_set, andThen, hlen, h1, hb, hf, hset, List.set_set]
 refine ⟨drawOk_sim [σ.length, fid] [.pure, .reads 0, .pure, .reads 0, .pure, .pure, .reads 0, .pure, .pure, .writes 1, .pure, .pure, .writes 1] (.cons (by simpa using hne) (.cons (by simp) .nil)) ?_ (by kernel_rfl), ?_⟩
 · repeat first | exact .nil | refine .cons (by first | exact .pure | exact .reads 0 _ rfl | exact .writes 1 _ rfl) ?_
 · refine hR0 _ _ _ ⟨_, ?_, rfl, hx⟩
   rfl
def nodeZ : AObj := .cells [strA [], .sl [] .full, boolA false, .lit (.int .i64 0), .lit (.pointer none)] 57
theorem get_new1 (σ : Sto) (x y : AObj) (l : List AObj) : (σ ++ x :: y :: l)[σ.length + 1]? = some y := by
 rw [List.getElem?_append_right (by omega), show σ.length + 1 - σ.length = 1 by omega]; rfl
set_option maxRecDepth 100000 in
theorem kid_ev (N : Nat) {t u : Tr} {fid : Nat} {σ : Sto} {k : Nat} (hk : t.kids[k]? = some u) (hl : t.kids.length ≤ 1000000) : CallW Tryz.prog (EN N) 38 [nodeA t fid, .lit (.int .i64 k)] σ fun r σ' => r = .ret (nodeA u fid) ∧ Ext σ σ' := by
 refine CallW.start (fn := Tryz.f38) (M := []) rfl rfl rfl rfl (by simp) fun tm hlen hs => ?_
 have h0 := hs 0 _ rfl
 have h1 := hs 1 _ rfl
 clear hs
 rw [nodeA_eq] at h0
 simp at hlen
 refine CW.hide fun R0 hR0 => ?_
 refine CW.seqK fun K hK => CW.region ?_
 simp (maxDischargeDepth := 16) [symB, List.length_set, andThen, hlen, h0]
 refine hK _ _ ?_; clear hK K
 refine CW.reset2 (fun tm σ1 => tm.length = 14 ∧ slot tm 1 = .lit (.int .i64 k) ∧ slot tm 2 = .ptr σ.length 0 ∧ slot tm 4 = .ptr (σ.length + 1) 0 ∧ σ1 = σ ++ [nodeO t fid, nodeZ]) ⟨by simp [hlen], by simp [slot_eq, slot_ne, hlen, h1], by simp [slot_eq, slot_ne, hlen], by simp [slot_eq, slot_ne, hlen], rfl⟩ ?_
 clear h0 h1 hlen tm
 rintro tm σ1 ⟨hlen, h1, h2, h4, rfl⟩
 have hb : (σ ++ [nodeO t fid, nodeZ])[σ.length]? = some (.cells [.lit (.string (bs t.word)), .sl (rowsOf t.kids) .no, .lit (.bool t.row), .lit (.int .i64 t.at_), .ptr fid 0] 57) := get_new _ _ _
 have hb2 : (σ ++ [nodeO t fid, nodeZ])[σ.length + 1]? = some (.cells [.lit (.string ⟨#[]⟩), .sl [] .full, .lit (.bool false), .lit (.int .i64 0), .lit (.pointer none)] 57) := get_new1 _ _ _ _
 have hx : ∀ o, Ext σ ((σ ++ [nodeO t fid, nodeZ]).set (σ.length + 1) o) := fun o => ⟨[nodeO t fid, nodeZ].set 1 o, by rw [List.set_append_right _ _ (by omega), show σ.length + 1 - σ.length = 1 by omega]⟩
 have hfl := lt_of_obj hb2
 generalize σ ++ [nodeO t fid, nodeZ] = σ1 at *
 have hset : ∀ o, (σ1.set (σ.length + 1) o)[σ.length + 1]? = some o := fun o => List.getElem?_set_self hfl
 have hg := rowsOf_get hk
 rw [bs_def] at hg
 have hkl : k < t.kids.length := (List.getElem?_eq_some_iff.1 hk).1
 have hkl' : (k : Int) < t.kids.length := by omega
 refine CW.seqK fun K7 hK7 => CW.draw (by kernel_rfl) ?_
 simp (maxDischargeDepth := 16) [symB, List.length_set, andThen, hlen, h1, h2, h4, hb, hb2, hg, hset]
 refine ⟨drawOk_sim [σ.length, σ.length + 1] [.pure, .pure, .reads 0, .pure, .pure, .pure, .pure, .reads 0, .pure, .writes 1] (.cons (by simp) (.cons (by simp) .nil)) ?_ (by kernel_rfl), ?_⟩
 · repeat first | exact .nil | refine .cons (by first | exact .pure | exact .reads 0 _ rfl | exact .writes 1 _ rfl) ?_
 · refine hK7 _ _ ?_
   refine CW.ret (hR0 _ _ _ ⟨nodeA u fid, ?_, rfl, hx _⟩)
   rw [nodeA_eq]
   simp [resultsA, omap, res_tmp, slot_eq, slot_ne, hlen, res_cell, h4, hset, partA, aggT, bs_def]
set_option maxRecDepth 100000 in
theorem skip_ev (N : Nat) (t : Tr) (fid : Nat) (σ : Sto) : CallW Tryz.prog (EN N) 43 [nodeA t fid] σ fun r σ' => r = .ret (.tup []) ∧ Ext σ σ' := by
 refine CallW.start (fn := Tryz.f43) (M := []) rfl rfl rfl rfl (by simp) fun tm hlen hs => ?_
 have h0 := hs 0 _ rfl
 clear hs
 rw [nodeA_eq] at h0
 simp at hlen
 refine CW.hide fun R0 hR0 => ?_
 refine CW.region ?_
 simp (maxDischargeDepth := 16) [symB, List.length_set, andThen, hlen, h0]
 exact hR0 _ _ _ ⟨_, rfl, rfl, ⟨_, rfl⟩⟩
set_option maxRecDepth 100000 in
theorem head_ev (N : Nat) (t : Tr) (fid : Nat) (σ : Sto) (hl : t.kids.length ≤ 1000000) : CallW Tryz.prog (EN N) 37 [nodeA t fid] σ fun r σ' => r = .ret (strA (headS t)) ∧ Ext σ σ' := by
 refine CallW.start (fn := Tryz.f37) (M := []) rfl rfl rfl rfl (by simp) fun tm hlen hs => ?_
 have h0 := hs 0 _ rfl
 clear hs
 rw [nodeA_eq] at h0
 simp at hlen
 refine CW.hide fun R0 hR0 => ?_
 have done : ∀ (c : List UInt8) (tm : List AV) (σ' : Sto), c = headS t → Ext σ σ' → tm.length = 28 → slot tm 2 = strA c → R0 .ret tm σ' := by
  intro c tm σ' hc hx hlen h2
  refine hR0 _ _ _ ⟨strA c, ?_, by rw [hc], hx⟩
  simp [resultsA, omap, res_tmp, slot_eq, slot_ne, hlen, h2]
 clear hR0
 refine CW.seqK fun K hK => CW.region ?_
 simp (maxDischargeDepth := 16) [symB, List.length_set, andThen, hlen, h0]
 refine hK _ _ ?_; clear hK K
 refine CW.reset2 (fun tm σ1 => tm.length = 28 ∧ slot tm 1 = .ptr σ.length 0 ∧ σ1 = σ ++ [nodeO t fid]) ⟨by simp [hlen], by simp [slot_eq, slot_ne, hlen], rfl⟩ ?_
 clear h0 hlen tm
 rintro tm σ1 ⟨hlen, h1, rfl⟩
 have hb : (σ ++ [nodeO t fid])[σ.length]? = some (.cells [.lit (.string (bs t.word)), .sl (rowsOf t.kids) .no, .lit (.bool t.row), .lit (.int .i64 t.at_), .ptr fid 0] 57) := get_new _ _ _
 have hx : Ext σ (σ ++ [nodeO t fid]) := ⟨_, rfl⟩
 generalize σ ++ [nodeO t fid] = σ1 at *
 refine CW.seqK fun K hK => ?_
 refine CW.seqK fun K2 hK2 => CW.region ?_
 obtain ⟨w, k, row, a⟩ := t
 simp only [Tr.word, Tr.kids, Tr.row, Tr.at_] at *
 have no : headS (.mk w k row a) = [] → ∀ tm : List AV, tm.length = 28 → slot tm 21 = .lit (.bool true) → K2 tm σ1 := by
  intro hno tm hlen h21
  refine hK2 _ _ ?_
  refine CW.cond (t := true) (by simp [evx_tmp, slot_eq, slot_ne, hlen, h21]) ?_
  refine CW.seqK fun K7 hK7 => CW.region ?_
  simp (maxDischargeDepth := 16) [symB, List.length_set, andThen, hlen]
  refine hK7 _ _ ?_
  refine CW.ret ?_
  simp only [andThen, outOf]
  exact done [] _ _ hno.symm hx (by simp [hlen]) (by simp [slot_eq, slot_ne, hlen]; rfl)
 cases row with
 | false =>
  simp (maxDischargeDepth := 16) [symB, List.length_set, andThen, hlen, h1, hb]
  exact no (by unfold headS; split <;> simp_all) _ (by simp [hlen]) (by simp [slot_eq, slot_ne, hlen])
 | true =>
  cases k with
  | nil =>
   simp (maxDischargeDepth := 16) [symB, List.length_set, andThen, hlen, h1, hb, rowsOf]
   exact no rfl _ (by simp [hlen]) (by simp [slot_eq, slot_ne, hlen])
  | cons u l =>
   obtain ⟨w2, k2, row2, a2⟩ := u
   have hll : (rowsOf l).length = l.length := rowsOf_length l
   have hnz : ¬ ((l.length : Int) + 1 = 0) := by omega
   have hp : (0 : Int) < (l.length : Int) + 1 := by omega
   cases row2 with
   | true =>
    simp (maxDischargeDepth := 16) [symB, List.length_set, andThen, hlen, h1, hb, rowsOf, rowOf, hll, hnz, hp]
    exact no rfl _ (by simp [hlen]) (by simp [slot_eq, slot_ne, hlen])
   | false =>
    simp (maxDischargeDepth := 16) [symB, List.length_set, andThen, hlen, h1, hb, rowsOf, rowOf, hll, hnz, hp]
    refine hK2 _ _ ?_
    refine CW.cond (t := false) (by simp [evx_tmp, slot_eq, slot_ne, hlen]) ?_
    refine CW.skip ?_
    simp only [andThen]
    refine hK _ _ ?_
    refine CW.seqK fun K7 hK7 => CW.region ?_
    simp (maxDischargeDepth := 16) [symB, List.length_set, andThen, hlen, h1, hb, rowsOf, rowOf, hll, hnz, hp]
    refine hK7 _ _ ?_
    refine CW.ret ?_
    exact done w2 _ _ rfl hx (by simp [hlen]) (by simp [slot_eq, slot_ne, hlen]; rfl)
end
section
def lenR : RF → Nat
 | .name | .many | .names | .params => 1
 | .whole | .sorted | .con => 2
 | .arm => 3
 | .atom | .term => 5
 | .right => 7
 | .kind => 9
 | .param => 10
 | .body | .let_ | .last => 11
theorem putCells_len : ∀ (v cs : List AV) (off : Nat), (putCells cs off v).length = cs.length
 | [], cs, off => rfl
 | x :: v, cs, off => by rw [putCells, putCells_len v, List.length_set]
theorem putO_len (cs : List AV) (off : Nat) (o : Option (Option (List AV))) : (putO cs off o).length = cs.length := by
 unfold putO; split
 · exact putCells_len _ _ _
 · rfl
theorem nameS_len (t : Tr) : (nameS t).1.length = 1 := by unfold nameS; split <;> rfl
theorem atomS_len (t : Tr) : (atomS t).1.length = 5 := by
 unfold atomS
 split
 · rfl
 · split
   · rfl
   · simp [nameS_len, intZ]
theorem wordS_len (t : Tr) : (wordS t).1.length = 5 := by
 unfold wordS
 split
 · rfl
 · split
   · rfl
   · split
     · rfl
     · simp [nameS_len, intZ]
theorem restS_mem {f : Tr → Ans} : ∀ {l : List Tr} {c : List AV}, c ∈ (restS f l).1 → ∃ t ∈ l, c = (f t).1
 | [], c, h => by cases h
 | t :: l, c, h => by
  unfold restS at h
  split at h
  · rename_i p hp
    rw [List.mem_singleton.1 h]
    exact ⟨t, by simp, rfl⟩
  · rcases List.mem_cons.1 h with rfl | h
    · exact ⟨t, by simp, rfl⟩
    · obtain ⟨u, hu, e⟩ := restS_mem h
      exact ⟨u, by simp [hu], e⟩
theorem restO_mem {o : Option Int} {f : Tr → Ans} {l : List Tr} {c : List AV} (h : c ∈ (restO o f l).1) : ∃ t ∈ l, c = (f t).1 := by
 unfold restO at h
 split at h
 · cases h
 · exact restS_mem h
theorem allS_mem {f : Tr → Ans} {t : Tr} {c : List AV} (h : c ∈ (allS f t).1) : ∃ u ∈ t.kids, c = (f u).1 := by
 unfold allS at h
 split at h
 · exact restS_mem h
 · cases h
theorem foldr_len {n : Nat} {e : List AV} (he : e.length = n) : ∀ {l : List (List AV)}, (∀ c ∈ l, c.length = n) → (l.foldr withBody e).length = n
 | [], _ => he
 | c :: l, h => by
  rw [List.foldr_cons]
  unfold withBody
  rw [List.length_set]
  exact h c (by simp)
theorem rd_len : ∀ (N : Nat) (g : RF) (t : Tr), rank g ≤ N → (rd N g t).1.length = lenR g
 | 0, g, t, h => by cases g <;> simp [rank] at h
 | n + 1, g, t, h => by
  cases g with
  | name => simp only [rd]; exact nameS_len t
  | whole => simp only [rd]; unfold wholeS; split <;> rfl
  | atom => simp only [rd]; exact atomS_len t
  | sorted => simp [rd, putO_len, sortedZ, lenR]
  | many => simp [rd, lenR]
  | con =>
   simp only [rd]
   split
   · have := rd_len n .name (kidAt t 0) (by simp [rank] at h ⊢; omega)
     simp [this, lenR]
   · rfl
  | names => simp [rd, lenR]
  | params => simp [rd, lenR]
  | param => simp [rd, putO_len, paramZ, kindZ, termZ, lenR]
  | kind =>
   simp only [rd]
   split <;> simp [putO_len, kindZ, termZ, lenR]
  | term =>
   simp only [rd]
   split
   · exact wordS_len t
   · split
     · simp [putO_len, termZ, lenR]
     · split
       · have := rd_len n .name (kidAt t 1) (by simp [rank] at h ⊢; omega)
         simp [this, intZ, lenR]
       · split
         · split
           · rfl
           · simp [intZ, lenR]
         · split
           · simp [intZ, lenR]
           · rfl
  | right =>
   simp only [rd]
   repeat' split
   all_goals first
    | (simp [putO_len, rhsZ, lenR]; done)
    | (have := rd_len n .name (kidAt t 1) (by simp [rank] at h ⊢; omega)
       simp [this, lenR])
  | body =>
   simp only [rd]
   split
   · split
     · rfl
     · refine foldr_len (rd_len n .last _ (by simp [rank] at h ⊢; omega)) fun c hc => ?_
       obtain ⟨u, _, rfl⟩ := restS_mem hc
       exact rd_len n .let_ u (by simp [rank] at h ⊢; omega)
   · rfl
  | let_ =>
   simp only [rd]
   split <;> simp [putO_len, exprZ, atomZ, lenR]
  | last =>
   simp only [rd]
   repeat' split
   all_goals simp [putCells_len, exprZ, atomZ, lenR]
  | arm => simp [rd, putO_len, armZ, lenR]
def okC (c : AV) : Prop := c.one = true ∧ still c ∧ c.strip = c
def okL (l : List AV) : Prop := ∀ c ∈ l, okC c
def okR (l : List (List AV)) : Prop := ∀ e ∈ l, okL e
theorem okC_lit (v : Value) : okC (.lit v) := ⟨rfl, still_lit v, rfl⟩
theorem okC_nil : okC nilA := ⟨rfl, still_none, rfl⟩
theorem okC_rows {l : List (List AV)} (h : okR l) : okC (rowsA' l) := ⟨rfl, still_rows fun e he d hd => (h e he d hd).2.1, rfl⟩
theorem okL_nil : okL [] := fun c h => by cases h
theorem okL_cons {c : AV} {l : List AV} (h : okC c) (hl : okL l) : okL (c :: l) := fun d hd => by
 rcases List.mem_cons.1 hd with rfl | hd
 · exact h
 · exact hl d hd
theorem okL_append {l m : List AV} (h : okL l) (hm : okL m) : okL (l ++ m) := fun d hd => by
 rcases List.mem_append.1 hd with hd | hd
 · exact h d hd
 · exact hm d hd
theorem okL_set {l : List AV} {k : Nat} {c : AV} (h : okL l) (hc : okC c) : okL (l.set k c) := fun d hd => by
 rcases List.mem_or_eq_of_mem_set hd with hd | rfl
 · exact h d hd
 · exact hc
theorem okL_put : ∀ {v cs : List AV} {off : Nat}, okL cs → okL v → okL (putCells cs off v)
 | [], cs, off, h, _ => h
 | x :: v, cs, off, h, hv => by
  rw [putCells]
  exact okL_put (okL_set h (hv x (by simp))) fun d hd => hv d (by simp [hd])
def okO (o : Option (Option (List AV))) : Prop := ∀ v, o = some (some v) → okL v
theorem okL_putO {cs : List AV} {off : Nat} {o : Option (Option (List AV))} (h : okL cs) (ho : okO o) : okL (putO cs off o) := by
 unfold putO; split
 · exact okL_put h (ho _ rfl)
 · exact h
theorem okL_intZ : okL intZ := okL_cons (okC_lit _) (okL_cons okC_nil okL_nil)
theorem okR_d32 (d : List Nat) : okR (d32 d) := fun e he c hc => by
 unfold d32 at he
 obtain ⟨n, _, rfl⟩ := List.mem_map.1 he
 rw [List.mem_singleton.1 hc]
 exact okC_lit _
theorem okL_numC (p : Bool × List Nat) : okL (numC p) := okL_cons (okC_lit _) (okL_cons (okC_rows (okR_d32 _)) okL_nil)
theorem okL_name (t : Tr) : okL (nameS t).1 := by unfold nameS; split <;> exact okL_cons (okC_lit _) okL_nil
theorem okL_whole (t : Tr) : okL (wholeS t).1 := by unfold wholeS; split <;> first | exact okL_intZ | exact okL_numC _
theorem okL_termZ : okL termZ := okL_cons (okC_lit _) (okL_cons (okC_lit _) (okL_cons (okC_lit _) (okL_cons okC_nil (okL_cons okC_nil okL_nil))))
theorem okL_kindZ : okL kindZ := okL_append (okL_append (okL_cons (okC_lit _) (okL_cons (okC_lit _) okL_nil)) okL_termZ) (okL_cons okC_nil (okL_cons okC_nil okL_nil))
theorem okL_paramZ : okL paramZ := okL_cons (okC_lit _) okL_kindZ
theorem okL_atomZ : okL atomZ := okL_cons (okC_lit _) (okL_cons (okC_lit _) (okL_cons (okC_lit _) (okL_cons okC_nil (okL_cons (okC_lit _) okL_nil))))
theorem okL_rhsZ : okL rhsZ := okL_cons (okC_lit _) (okL_cons (okC_lit _) (okL_cons okC_nil (okL_cons okC_nil (okL_cons okC_nil (okL_cons okC_nil (okL_cons okC_nil okL_nil))))))
theorem okL_exprZ : okL exprZ := okL_append (okL_append (okL_cons (okC_lit _) (okL_cons (okC_lit _) (okL_cons okC_nil (okL_cons okC_nil okL_nil)))) okL_atomZ) (okL_cons okC_nil (okL_cons okC_nil okL_nil))
theorem okL_armZ : okL armZ := okL_cons (okC_lit _) (okL_cons okC_nil (okL_cons okC_nil okL_nil))
theorem okL_conZ : okL conZ := okL_cons (okC_lit _) (okL_cons okC_nil okL_nil)
theorem okL_sortedZ : okL sortedZ := okL_cons (okC_lit _) (okL_cons (okC_lit _) okL_nil)
theorem okR_one {l : List AV} (h : okL l) : okR [l] := fun e he => by rw [List.mem_singleton.1 he]; exact h
theorem okL_atom (t : Tr) : okL (atomS t).1 := by
 unfold atomS
 split
 · exact okL_cons (okC_lit _) (okL_cons (okC_lit _) (okL_append (okL_numC _) (okL_cons (okC_lit _) okL_nil)))
 · split
   · exact okL_cons (okC_lit _) (okL_cons (okC_lit _) (okL_append okL_intZ (okL_cons (okC_lit _) okL_nil)))
   · exact okL_cons (okC_lit _) (okL_append (okL_append (okL_name t) okL_intZ) (okL_cons (okC_lit _) okL_nil))
theorem okL_word (t : Tr) : okL (wordS t).1 := by
 unfold wordS
 split
 · exact okL_cons (okC_lit _) (okL_cons (okC_lit _) (okL_append (okL_numC _) (okL_cons okC_nil okL_nil)))
 · split
   · exact okL_cons (okC_lit _) (okL_cons (okC_lit _) (okL_append okL_intZ (okL_cons okC_nil okL_nil)))
   · split
     · exact okL_cons (okC_lit _) (okL_cons (okC_lit _) (okL_append okL_intZ (okL_cons okC_nil okL_nil)))
     · exact okL_cons (okC_lit _) (okL_append (okL_append (okL_name t) okL_intZ) (okL_cons okC_nil okL_nil))
theorem okR_rest {f : Tr → Ans} {l : List Tr} (h : ∀ t, okL (f t).1) : okR (restS f l).1 := fun e he => by obtain ⟨u, _, rfl⟩ := restS_mem he; exact h u
theorem okR_restO {o : Option Int} {f : Tr → Ans} {l : List Tr} (h : ∀ t, okL (f t).1) : okR (restO o f l).1 := fun e he => by obtain ⟨u, _, rfl⟩ := restO_mem he; exact h u
theorem okR_all {f : Tr → Ans} {t : Tr} (h : ∀ t, okL (f t).1) : okR (allS f t).1 := fun e he => by obtain ⟨u, _, rfl⟩ := allS_mem he; exact h u
theorem okO_G : ∀ {fs : List (Tr → Ans)} {l : List Tr} {k : Nat}, (∀ f ∈ fs, ∀ t, okL (f t).1) → okO (partsG fs l).1[k]?
 | [], l, k, h => by intro v hv; cases l <;> simp [partsG] at hv
 | f :: fs, [], k, h => by
  intro v hv
  have : partsG (f :: fs) [] = ((f :: fs).map (fun _ => none), none) := rfl
  rw [this] at hv
  simp only [List.getElem?_map, Option.map_eq_some_iff] at hv
  obtain ⟨_, _, h⟩ := hv
  cases h
 | f :: fs, t :: l, k, h => by
  intro v hv
  unfold partsG at hv
  split at hv
  · cases k with
    | zero => simp at hv; subst hv; exact h f (by simp) t
    | succ k => simp at hv
  · cases k with
    | zero => simp at hv; subst hv; exact h f (by simp) t
    | succ k => exact okO_G (fs := fs) (l := l) (k := k) (fun g hg => h g (by simp [hg])) v (by simpa using hv)
theorem okO_S {fs : List (Tr → Ans)} {t : Tr} {k : Nat} (h : ∀ f ∈ fs, ∀ t, okL (f t).1) : okO (partsS fs t).1[k]? := by
 unfold partsS
 split
 · exact okO_G h
 · intro v hv; simp at hv
theorem okL_skip (t : Tr) : okL (skipS t).1 := okL_nil
theorem okL_fold {e : List AV} (he : okL e) : ∀ {l : List (List AV)}, okR l → okL (l.foldr withBody e)
 | [], _ => he
 | c :: l, h => by
  rw [List.foldr_cons]
  exact okL_set (h c (by simp)) (okC_rows (okR_one (okL_fold he fun e he => h e (by simp [he]))))
theorem rd_ok : ∀ (N : Nat) (g : RF) (t : Tr), okL (rd N g t).1
 | 0, g, t => okL_nil
 | n + 1, g, t => by
  have ih := rd_ok n
  cases g with
  | name => exact okL_name t
  | whole => exact okL_whole t
  | atom => exact okL_atom t
  | sorted => exact okL_putO (okL_putO okL_sortedZ (okO_S (by simp [ih]))) (okO_S (by simp [ih]))
  | many => exact okL_cons (okC_rows (okR_all (ih _))) okL_nil
  | con =>
   simp only [rd]
   split
   · exact okL_append (ih _ _) (okL_cons (okC_rows (okR_restO (ih _))) okL_nil)
   · exact okL_conZ
  | names => exact okL_cons (okC_rows (okR_all (ih _))) okL_nil
  | params => exact okL_cons (okC_rows (okR_all (ih _))) okL_nil
  | param => exact okL_putO (okL_putO okL_paramZ (okO_S (by simp [ih]))) (okO_S (by simp [ih]))
  | kind =>
   simp only [rd]
   split
   · exact okL_set (okL_set (okL_putO okL_kindZ (okO_S (by simp [ih, okL_skip]))) (okC_lit _)) (okC_rows (okR_one (okL_putO okL_kindZ (okO_S (by simp [ih, okL_skip])))))
   · exact okL_putO (okL_putO okL_kindZ (okO_S (by simp [ih]))) (okO_S (by simp [ih]))
  | term =>
   simp only [rd]
   split
   · exact okL_word t
   · split
     · exact okL_set (okL_putO (okL_set okL_termZ (okC_lit _)) (okO_S (by simp [ih, okL_skip]))) (okC_rows (okR_one (okL_putO okL_termZ (okO_S (by simp [ih, okL_skip])))))
     · split
       · exact okL_cons (okC_lit _) (okL_append (okL_append (ih _ _) okL_intZ) (okL_cons (okC_rows (okR_restO (ih _))) okL_nil))
       · split
         · split
           · exact okL_termZ
           · exact okL_cons (okC_lit _) (okL_cons (okC_lit _) (okL_append okL_intZ (okL_cons (okC_rows (okR_rest (ih _))) okL_nil)))
         · split
           · exact okL_cons (okC_lit _) (okL_cons (okC_lit _) (okL_append okL_intZ (okL_cons (okC_rows (okR_rest (ih _))) okL_nil)))
           · exact okL_termZ
  | right =>
   simp only [rd]
   repeat' split
   · exact okL_set (okL_set okL_rhsZ (okC_lit _)) (okC_rows (okR_one (ih _ _)))
   · exact okL_set (okL_set (okL_set okL_rhsZ (okC_lit _)) (okC_lit _)) (okC_rows (okR_rest (ih _)))
   · exact okL_cons (okC_lit _) (okL_append (ih _ _) (okL_cons (okC_rows (okR_restO (ih _))) (okL_cons okC_nil (okL_cons okC_nil (okL_cons okC_nil (okL_cons okC_nil okL_nil))))))
   · exact okL_set (okL_set okL_rhsZ (okC_lit _)) (okC_rows (okR_rest (ih _)))
   · exact okL_set (okL_set okL_rhsZ (okC_lit _)) (okC_rows (okR_rest (ih _)))
   · exact okL_set (okL_set okL_rhsZ (okC_lit _)) (okC_rows (okR_rest (ih _)))
   · exact okL_set (okL_set okL_rhsZ (okC_lit _)) (okC_rows (okR_rest (ih _)))
   · exact okL_set (okL_set (okL_putO (okL_set okL_rhsZ (okC_lit _)) (okO_S (by simp [ih, okL_skip]))) (okC_rows (okR_one (okL_putO okL_kindZ (okO_S (by simp [ih, okL_skip])))))) (okC_rows (okR_one (okL_putO okL_exprZ (okO_S (by simp [ih, okL_skip])))))
   · exact okL_rhsZ
  | body =>
   simp only [rd]
   split
   · split
     · exact okL_exprZ
     · exact okL_fold (ih _ _) (okR_rest (ih _))
   · exact okL_exprZ
  | let_ =>
   simp only [rd]
   split
   · exact okL_set (okL_set (okL_putO (okL_set okL_exprZ (okC_lit _)) (okO_S (by simp [ih, okL_skip]))) (okC_rows (okR_one (okL_putO okL_kindZ (okO_S (by simp [ih, okL_skip])))))) (okC_rows (okR_one (okL_putO okL_rhsZ (okO_S (by simp [ih, okL_skip])))))
   · exact okL_set (okL_set (okL_set okL_exprZ (okC_lit _)) (okC_rows (okR_one okL_kindZ))) (okC_rows (okR_one okL_rhsZ))
  | last =>
   simp only [rd]
   repeat' split
   · exact okL_put (okL_set okL_exprZ (okC_lit _)) (ih _ _)
   · exact okL_set (okL_put (okL_set okL_exprZ (okC_lit _)) (ih _ _)) (okC_rows (okR_restO (ih _)))
   · exact okL_set (okL_put (okL_set okL_exprZ (okC_lit _)) (ih _ _)) (okC_rows (okR_restO (ih _)))
   · exact okL_exprZ
  | arm => exact okL_set (okL_putO (okL_putO okL_armZ (okO_S (by simp [ih]))) (okO_S (by simp [ih]))) (okC_rows (okR_one (okL_putO okL_exprZ (okO_S (by simp [ih])))))
theorem strip_ok : ∀ {l : List AV}, okL l → l.map AV.strip = l
 | [], _ => rfl
 | c :: l, h => by rw [List.map_cons, (h c (by simp)).2.2, strip_ok fun d hd => h d (by simp [hd])]
theorem stripRows_ok {l : List AV} (h : okL l) : stripRows [l] = [l] := by unfold stripRows; simp [strip_ok h]
end
end Go.Proofs.YtkkblmdgedmdfaaGreatDoor
