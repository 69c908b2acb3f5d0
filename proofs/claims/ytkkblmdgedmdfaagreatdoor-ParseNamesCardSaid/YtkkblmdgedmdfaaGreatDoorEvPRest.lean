/-
 EV: parse: rest[T], all[T], for each T (printed by gen_rest.py).
-/
import Derived.Test.YtkkblmdgedmdfaaGreatDoorEvPInto
namespace Go.Proofs.YtkkblmdgedmdfaaGreatDoor
set_option linter.unusedSimpArgs false
set_option linter.unusedVariables false
open Go.RowKit
theorem restS_cons (f : Tr → Ans) (t : Tr) (l : List Tr) : restS f (t :: l) = match (f t).2 with | some p => ([(f t).1], some p) | none => ((f t).1 :: (restS f l).1, (restS f l).2) := rfl
theorem putCells_app : ∀ (r z a : List AV), z.length = r.length → putCells (a ++ z) a.length r = a ++ r
 | [], z, a, h => by
  obtain rfl : z = [] := List.eq_nil_of_length_eq_zero h
  rfl
 | x :: r, y :: z, a, h => by
  rw [putCells, List.set_append_right _ _ (Nat.le_refl _), Nat.sub_self, List.set_cons_zero]
  have := putCells_app r z (a ++ [x]) (by simpa using h)
  simpa using this
 | x :: r, [], a, h => by simp at h
theorem take_put {k : Nat} {v : List AV} (hv : v.length = k) (z : List AV) (hz : z.length = k) : List.take k (putCells z 0 v) = v := by
 have := putCells_app v z [] (by omega)
 simp only [List.nil_append, List.length_nil] at this
 rw [this, List.take_of_length_le (by omega)]
theorem TokAt.setF {σ0 σ : Sto} {m : Nat} {e : TypeId} {t : Tok} (h : TokAt σ0 σ m e t) {fid : Nat} (hl : fid < σ0.length) (o : Option Int) : TokAt (Go.Proofs.YtkkblmdgedmdfaaGreatDoor.setF σ0 fid o) (Go.Proofs.YtkkblmdgedmdfaaGreatDoor.setF σ fid o) m e t := by
 rcases h with h | ⟨id, h1, h2, h3⟩
 · exact .inl h
 · exact .inr ⟨id, h1, by rw [setF_len]; exact h2, by rw [setF_ne _ (by omega)]; exact h3⟩
theorem head_len {k : Nat} {rows : List (List AV)} (h : ∀ e ∈ rows, e.length = k) : rows.head?.all (·.length == k) = true := by
 cases rows with
 | nil => rfl
 | cons e l => simp [h e (by simp)]
set_option maxRecDepth 100000 in
set_option maxHeartbeats 1000000 in
theorem rest_name_ev (N : Nat) (g : RF) (hg : lenR g = 1) {t : Tr} {fid src : Nat} {σ : Sto} (hf : fineL t.kids) (hn : ∀ u ∈ t.kids, 8 * sizeT u + rank g ≤ N) (hc : σ[fid]? = some cleanO) (hl : t.kids.length ≤ 1000000) (hfrom : src ≤ t.kids.length) :
    CallW Tryz.prog (EN N) 91 [nodeA t fid, .lit (.int .i64 src), .fn (.func (fidOf g)) [] []] σ fun r σ' => ∃ tok, r = .ret (.sl (restS (rd N g) (t.kids.drop src)).1 tok) ∧ Ext (setF σ fid (restS (rd N g) (t.kids.drop src)).2) σ' := by
 refine CallW.start (fn := Tryz.f91) (M := []) rfl rfl rfl rfl (by simp) fun tm hlen hs => ?_
 have h0 := hs 0 _ rfl
 have h1 := hs 1 _ rfl
 have h2 := hs 2 _ rfl
 clear hs
 rw [nodeA_eq] at h0
 simp at hlen
 refine CW.hide fun R0 hR0 => ?_
 have hfl := lt_of_obj hc
 generalize hrs : restS (rd N g) (t.kids.drop src) = rs at *
 have done : ∀ (tok : Tok) (tm : List AV) (σ' : Sto), Ext (setF σ fid rs.2) σ' → tm.length = 35 → slot tm 6 = .sl rs.1 tok → R0 .ret tm σ' := by
  intro tok tm σ' hx hlen h6
  refine hR0 _ _ _ ⟨.sl rs.1 tok, ?_, tok, rfl, hx⟩
  simp [resultsA, omap, res_tmp, slot_eq, slot_ne, hlen, h6]
 clear hR0
 refine CW.seqK fun K hK => CW.region ?_
 simp (maxDischargeDepth := 16) [symB, List.length_set, andThen, hlen, h0]
 refine hK _ _ ?_; clear hK K
 refine CW.seqK fun K hK => CW.region ?_
 simp (maxDischargeDepth := 16) [symB, List.length_set, andThen, hlen]
 refine hK _ _ ?_; clear hK K
 refine CW.seqK fun K hK => ?_
 refine CW.seqK fun K hK => CW.region ?_
 simp (maxDischargeDepth := 16) [symB, List.length_set, andThen, hlen, h1]
 refine hK _ _ ?_; clear hK K
 refine CW.reset2 (fun tm σ1 => tm.length = 35 ∧ slot tm 2 = .fn (.func (fidOf g)) [] [] ∧ slot tm 3 = .ptr σ.length 0 ∧ slot tm 7 = .sl [] .full ∧ slot tm 8 = .lit (.int .i64 src) ∧ σ1 = σ ++ [nodeO t fid]) ⟨by simp [hlen], by simp [slot_ne, h2], by simp [slot_eq, slot_ne, hlen], by simp [slot_eq, slot_ne, hlen], by simp [slot_eq, slot_ne, hlen], rfl⟩ ?_
 clear h0 h1 h2 hlen tm
 rintro tm σ0 ⟨hlen, h2, h3, h7, h8, hσ0⟩
 have hb0 : σ0[σ.length]? = some (.cells [.lit (.string (bs t.word)), .sl (rowsOf t.kids) .no, .lit (.bool t.row), .lit (.int .i64 t.at_), .ptr fid 0] 57) := by rw [hσ0]; exact get_new _ _ _
 have hx0 : Ext σ σ0 := by rw [hσ0]; exact ⟨_, rfl⟩
 have hc0 : σ0[fid]? = some cleanO := by rw [hσ0]; exact get_app hc
 clear hσ0
 have hkl : (rowsOf t.kids).length = t.kids.length := rowsOf_length _
 refine CW.block ?_
 refine CW.hide fun R hR => ?_
 refine CW.loopI (fun r tm σ1 => tm.length = 35 ∧ slot tm 2 = .fn (.func (fidOf g)) [] [] ∧ slot tm 3 = .ptr σ.length 0 ∧ σ1[σ.length]? = some (.cells [.lit (.string (bs t.word)), .sl (rowsOf t.kids) .no, .lit (.bool t.row), .lit (.int .i64 t.at_), .ptr fid 0] 57) ∧ ∃ (i : Nat) (rows : List (List AV)) (tok : Tok), slot tm 7 = .sl rows tok ∧ slot tm 8 = .lit (.int .i64 i) ∧ i ≤ t.kids.length ∧
     ((r = t.kids.length - i + 1 ∧ rows.length ≤ i ∧ (∀ e ∈ rows, e.length = 1) ∧ rs = (rows ++ (restS (rd N g) (t.kids.drop i)).1, (restS (rd N g) (t.kids.drop i)).2) ∧ TokAt σ0 σ1 (rows.length * 1) 9 tok ∧ Ext σ0 σ1 ∧ σ1[fid]? = some cleanO) ∨
      (r = 0 ∧ ∃ p, rs = (rows, some p) ∧ σ1[fid]? = some (badO p) ∧ Ext (setF σ0 fid (some p)) σ1))) ?_ _ _ _
  ⟨hlen, h2, h3, hb0, src, [], .full, h7, h8, hfrom, .inl ⟨rfl, by simp, by simp, by rw [hrs]; rfl, .inl ⟨rfl, by simp⟩, Ext.refl _, hc0⟩⟩
 clear h2 h3 h7 h8 hlen tm
 rintro r tm σ1 ⟨hlen, h2, h3, hb, i, rows, tok, h7, h8, hi, hAB⟩
 refine CW.hide fun R2 hR2 => ?_
 refine CW.seqK fun K3 hK3 => ?_
 refine CW.seqK fun K4 hK4 => CW.region ?_
 have fin : ∀ (tm : List AV) (σ1 : Sto) (tok : Tok), Ext (setF σ fid rs.2) σ1 → tm.length = 35 → slot tm 7 = .sl rs.1 tok → K tm σ1 := by
  intro tm σ1 tok hx hlen h7
  refine hK _ _ ?_
  refine CW.seqK fun K hK => CW.region ?_
  simp (maxDischargeDepth := 16) [symB, List.length_set, andThen, hlen, h7]
  refine hK _ _ ?_; clear hK K
  exact CW.ret (done tok _ _ hx (by simp [hlen]) (by simp [slot_eq, slot_ne, hlen]))
 clear done hK
 have out : ∀ (tm : List AV) (σ1 : Sto) (tok : Tok), Ext (setF σ fid rs.2) σ1 → tm.length = 35 → slot tm 7 = .sl rs.1 tok → slot tm 23 = .lit (.bool false) → K4 tm σ1 := by
  intro tm σ1 tok hx hlen h7 h23
  refine hK4 _ _ ?_
  refine CW.cond (t := false) (by simp [evx_tmp, slot_eq, slot_ne, hlen, h23]) ?_
  refine CW.exit ?_
  simp only [andThen]
  refine hR2 _ _ _ (hR _ _ _ ?_)
  simp only [outOf, if_true, andThen]
  exact fin _ _ tok hx hlen h7
 clear fin
 rcases hAB with ⟨rfl, hri, hrk, hrs2, htok, hext, hcl⟩ | ⟨rfl, p, hrs2, hbad, hext⟩
 · by_cases hlt : i < t.kids.length
   · have hlt' : (i : Int) < t.kids.length := by omega
     have hcl2 := hcl
     unfold cleanO boolA at hcl2
     simp (maxDischargeDepth := 16) [symB, List.length_set, andThen, hlen, h3, h8, hb, hkl, hlt', hlt, hcl2]
     refine hK4 _ _ ?_
     refine CW.cond (t := true) (by simp [evx_tmp, slot_eq, slot_ne, hlen, hlt]) ?_
     refine CW.skip ?_
     simp only [andThen]
     refine hK3 _ _ ?_; clear hK3 K3 hK4 K4 out
     refine CW.seqK fun K5 hK5 => CW.block (CW.region ?_)
     have hget : t.kids[i]? = some t.kids[i] := List.getElem?_eq_getElem hlt
     have hmem := List.getElem_mem hlt
     have hdrop : t.kids.drop i = t.kids[i] :: t.kids.drop (i + 1) := List.drop_eq_getElem_cons hlt
     generalize t.kids[i] = u at *
     simp (maxDischargeDepth := 16) [symB, List.length_set, andThen, outOf, hlen, h2, h3, h7, h8, hb]
     rw [← nodeA_eq]
     refine (kid_ev N hget hl).mono ?_
     rintro r2 σ2 ⟨rfl, hx2⟩
     refine Classical.byContradiction fun hno => ?_
     have hrk2 : rank g ≤ N := by have := hn u hmem; omega
     have hvc := (valR_cells (t := u) hrk2).1
     have hvt := (valR_cells (t := u) hrk2).2
     have hvl := rd_len N g u hrk2
     have hok := rd_ok N g u
     rw [hg] at hvl
     rw [hdrop, restS_cons] at hrs2
     have htok2 := htok.ext hx2
     have hcl3 := hx2.get hcl
     have hb3 := hx2.get hb
     have hext2 := hext.trans hx2
     have hwk : IntKind.i64.wrap ((i : Int) + 1) = ((i + 1 : Nat) : Int) := wrap_succ (by omega)
     have hnf : σ.length ≠ fid := by omega
     have hfu := fineL_mem hf hmem
     have hnu := hn u hmem
     clear hx2
     cases hq : (rd N g u).2 with
     | none =>
      obtain ⟨t', σ5, acc, hext5, htok5, hap⟩ := append_at (P := Tryz.prog) (M := []) (σ0 := σ0) (σ := σ2) (es := rows) (tok := tok) (tk := .full) (fs := [(rd N g u).1]) (t := 45) Tryz.underlying45 szOf_9 bytesOf_9 zeroOf_9 rfl
       htok2 hext2 (head_len hrk) (by simp [hvl]) (by simp) (by simp; omega) (by simp; omega)
      rw [stripRows_ok hok] at hap
      simp only [hq] at hrs2
      refine hno ?_
      clear hno
      simp (maxDischargeDepth := 16) [symB, List.length_set, retK, andThen, outOf, hlen, h2, h3, h7, h8, hb3]
      refine rd_ev g hfu hnu hcl3 ?_
      rw [hq]
      simp only [setF]
      generalize (rd N g u).1 = v at *
      generalize valR g v = vv at *
      have htp := take_put hvl
      simp (maxDischargeDepth := 16) [symB, List.length_set, retK, andThen, outOf, hlen, h2, h3, h7, h8, hb3, hvc, hvt, hvl, htp, hap]
      refine hK5 _ _ ?_
      refine CW.region ?_
      simp (maxDischargeDepth := 16) [symB, List.length_set, andThen, hlen, h8, hwk]
      refine hR2 _ _ _ ⟨t.kids.length - (i + 1) + 1, by omega, by simp [hlen], by simp [slot_ne, h2], by simp [slot_ne, h3], hext5.get hb0, i + 1, rows ++ [v], t', by simp [slot_eq, slot_ne, hlen], by simp [slot_eq, hlen], hlt, .inl ⟨rfl, by simp; omega, ?_, ?_, by simpa using htok5, hext5, hext5.get hc0⟩⟩
      · intro e he
        rcases List.mem_append.1 he with he | he
        · exact hrk e he
        · rw [List.mem_singleton.1 he]; exact hvl
      · rw [hrs2]; simp
     | some p =>
      have htok3 := htok2.setF (lt_of_obj hc0) (some p)
      have hext3 := setF_ext (some p) hext2 (lt_of_obj hc0)
      obtain ⟨t', σ5, acc, hext5, htok5, hap⟩ := append_at (P := Tryz.prog) (M := []) (σ0 := setF σ0 fid (some p)) (σ := setF σ2 fid (some p)) (es := rows) (tok := tok) (tk := .full) (fs := [(rd N g u).1]) (t := 45) Tryz.underlying45 szOf_9 bytesOf_9 zeroOf_9 rfl
       htok3 hext3 (head_len hrk) (by simp [hvl]) (by simp) (by simp; omega) (by simp; omega)
      rw [stripRows_ok hok] at hap
      simp only [hq] at hrs2
      refine hno ?_
      clear hno
      simp (maxDischargeDepth := 16) [symB, List.length_set, retK, andThen, outOf, hlen, h2, h3, h7, h8, hb3]
      refine rd_ev g hfu hnu hcl3 ?_
      rw [hq]
      have hb6 := hext5.get ((setF_ne (some p) hnf).trans hb0)
      have hf6 : σ5[fid]? = some (badO p) := hext5.get (List.getElem?_set_self (lt_of_obj hc0))
      generalize setF σ2 fid (some p) = σ3 at *
      generalize (rd N g u).1 = v at *
      generalize valR g v = vv at *
      have htp := take_put hvl
      simp (maxDischargeDepth := 16) [symB, List.length_set, retK, andThen, outOf, hlen, h2, h3, h7, h8, hb3, hvc, hvt, hvl, htp, hap]
      refine hK5 _ _ ?_
      refine CW.region ?_
      simp (maxDischargeDepth := 16) [symB, List.length_set, andThen, hlen, h8, hwk]
      refine hR2 _ _ _ ⟨0, by omega, by simp [hlen], by simp [slot_ne, h2], by simp [slot_ne, h3], hb6, i + 1, rows ++ [v], t', by simp [slot_eq, slot_ne, hlen], by simp [slot_eq, hlen], hlt, .inr ⟨rfl, p, hrs2, hf6, hext5⟩⟩
   · have hlt' : ¬ (i : Int) < t.kids.length := by omega
     simp (maxDischargeDepth := 16) [symB, List.length_set, andThen, hlen, h3, h8, hb, hkl, hlt', hlt]
     rw [List.drop_of_length_le (by omega)] at hrs2
     simp only [restS, List.append_nil] at hrs2
     subst hrs2
     exact out _ _ tok (hx0.trans hext) (by simp [hlen]) (by simp [slot_ne, h7]) (by simp [slot_eq, slot_ne, hlen, hlt])
 · unfold badO boolA at hbad
   have he : rs.1 = rows ∧ rs.2 = some p := by rw [hrs2]; exact ⟨rfl, rfl⟩
   by_cases hlt : i < t.kids.length
   · have hlt' : (i : Int) < t.kids.length := by omega
     simp (maxDischargeDepth := 16) [symB, List.length_set, andThen, hlen, h3, h8, hb, hkl, hlt', hlt, hbad]
     exact out _ _ tok (by rw [he.2]; exact (setF_ext _ hx0 hfl).trans hext) (by simp [hlen]) (by simp [slot_ne, h7, he.1]) (by simp [slot_eq, slot_ne, hlen, hlt])
   · have hlt' : ¬ (i : Int) < t.kids.length := by omega
     simp (maxDischargeDepth := 16) [symB, List.length_set, andThen, hlen, h3, h8, hb, hkl, hlt', hlt]
     exact out _ _ tok (by rw [he.2]; exact (setF_ext _ hx0 hfl).trans hext) (by simp [hlen]) (by simp [slot_ne, h7, he.1]) (by simp [slot_eq, slot_ne, hlen, hlt])
set_option maxRecDepth 100000 in
theorem all_name_ev (N : Nat) (g : RF) (hg : lenR g = 1) {t : Tr} {fid : Nat} {σ : Sto} (hf : fineL t.kids) (hn : ∀ u ∈ t.kids, 8 * sizeT u + rank g ≤ N) (hc : σ[fid]? = some cleanO) (hl : t.kids.length ≤ 1000000) :
    CallW Tryz.prog (EN N) 207 [nodeA t fid, .fn (.func (fidOf g)) [] []] σ fun r σ' => ∃ tok, r = .ret (.sl (allS (rd N g) t).1 tok) ∧ Ext (setF σ fid (allS (rd N g) t).2) σ' := by
 refine CallW.start (fn := Tryz.f207) (M := []) rfl rfl rfl rfl (by simp) fun tm hlen hs => ?_
 have h0 := hs 0 _ rfl
 have h1 := hs 1 _ rfl
 clear hs
 rw [nodeA_eq] at h0
 simp at hlen
 refine CW.hide fun R0 hR0 => ?_
 have hfl := lt_of_obj hc
 generalize hrs : allS (rd N g) t = rs at *
 have done : ∀ (tok : Tok) (tm : List AV) (σ' : Sto), Ext (setF σ fid rs.2) σ' → tm.length = 14 → slot tm 4 = .sl rs.1 tok → R0 .ret tm σ' := by
  intro tok tm σ' hx hlen h6
  refine hR0 _ _ _ ⟨.sl rs.1 tok, ?_, tok, rfl, hx⟩
  simp [resultsA, omap, res_tmp, slot_eq, slot_ne, hlen, h6]
 clear hR0
 refine CW.seqK fun K hK => CW.region ?_
 simp (maxDischargeDepth := 16) [symB, List.length_set, andThen, hlen, h0]
 refine hK _ _ ?_; clear hK K
 refine CW.reset2 (fun tm σ1 => tm.length = 14 ∧ slot tm 1 = .fn (.func (fidOf g)) [] [] ∧ slot tm 2 = .ptr σ.length 0 ∧ σ1 = σ ++ [nodeO t fid]) ⟨by simp [hlen], by simp [slot_ne, h1], by simp [slot_eq, slot_ne, hlen], rfl⟩ ?_
 clear h0 h1 hlen tm
 rintro tm σ0 ⟨hlen, h1, h2, hσ0⟩
 have hb0 : σ0[σ.length]? = some (.cells [.lit (.string (bs t.word)), .sl (rowsOf t.kids) .no, .lit (.bool t.row), .lit (.int .i64 t.at_), .ptr fid 0] 57) := by rw [hσ0]; exact get_new _ _ _
 have hx0 : Ext σ σ0 := by rw [hσ0]; exact ⟨_, rfl⟩
 have hc0 : σ0[fid]? = some cleanO := by rw [hσ0]; exact get_app hc
 clear hσ0
 refine CW.seqK fun K hK => ?_
 refine CW.seqK fun K2 hK2 => CW.region ?_
 cases hrow : t.row with
 | false =>
  have hrs2 : rs = ([], some t.at_) := by rw [← hrs]; unfold allS; rw [hrow]; rfl
  rw [hrow] at hb0
  simp (maxDischargeDepth := 16) [symB, List.length_set, andThen, hlen, h2, hb0]
  refine hK2 _ _ ?_
  refine CW.cond (t := true) (by simp [evx_tmp, slot_eq, slot_ne, hlen]) ?_
  refine CW.seqK fun K3 hK3 => CW.region ?_
  simp (maxDischargeDepth := 16) [symB, List.length_set, andThen, hlen, h2, hb0]
  rw [← hrow, ← nodeA_eq]
  refine (fault_ev N t fid σ0 hc0).mono ?_
  rintro r σ2 ⟨rfl, hx2⟩
  simp (maxDischargeDepth := 16) [symB, List.length_set, andThen, hlen, retK]
  refine hK3 _ _ ?_
  refine CW.seqK fun K4 hK4 => CW.region ?_
  simp (maxDischargeDepth := 16) [symB, List.length_set, andThen, hlen]
  refine hK4 _ _ ?_
  refine CW.ret ?_
  simp only [andThen]
  exact done .full _ _ (by rw [hrs2]; exact (setF_ext _ hx0 hfl).trans hx2) (by simp [hlen]) (by simp [slot_eq, slot_ne, hlen, hrs2])
 | true =>
  have hrs2 : rs = restS (rd N g) (t.kids.drop 0) := by rw [← hrs]; unfold allS; rw [hrow]; rfl
  rw [hrow] at hb0
  simp (maxDischargeDepth := 16) [symB, List.length_set, andThen, hlen, h2, hb0]
  refine hK2 _ _ ?_
  refine CW.cond (t := false) (by simp [evx_tmp, slot_eq, slot_ne, hlen]) ?_
  refine CW.skip ?_
  simp only [andThen]
  refine hK _ _ ?_
  refine CW.seqK fun K3 hK3 => CW.region ?_
  simp (maxDischargeDepth := 16) [symB, List.length_set, andThen, hlen, h1, h2, hb0]
  rw [← hrow, ← nodeA_eq]
  refine (rest_name_ev N g hg (src := 0) hf hn hc0 hl (by omega)).mono ?_
  rintro r σ2 ⟨tok, rfl, hx2⟩
  rw [← hrs2] at hx2 ⊢
  simp (maxDischargeDepth := 16) [symB, List.length_set, andThen, hlen, retK]
  refine hK3 _ _ ?_
  refine CW.ret ?_
  exact done tok _ _ ((setF_ext _ hx0 hfl).trans hx2) (by simp [hlen]) (by simp [slot_eq, slot_ne, hlen])
set_option maxRecDepth 100000 in
set_option maxHeartbeats 1000000 in
theorem rest_con_ev (N : Nat) (g : RF) (hg : lenR g = 2) {t : Tr} {fid src : Nat} {σ : Sto} (hf : fineL t.kids) (hn : ∀ u ∈ t.kids, 8 * sizeT u + rank g ≤ N) (hc : σ[fid]? = some cleanO) (hl : t.kids.length ≤ 1000000) (hfrom : src ≤ t.kids.length) :
    CallW Tryz.prog (EN N) 40 [nodeA t fid, .lit (.int .i64 src), .fn (.func (fidOf g)) [] []] σ fun r σ' => ∃ tok, r = .ret (.sl (restS (rd N g) (t.kids.drop src)).1 tok) ∧ Ext (setF σ fid (restS (rd N g) (t.kids.drop src)).2) σ' := by
 refine CallW.start (fn := Tryz.f40) (M := []) rfl rfl rfl rfl (by simp) fun tm hlen hs => ?_
 have h0 := hs 0 _ rfl
 have h1 := hs 1 _ rfl
 have h2 := hs 2 _ rfl
 clear hs
 rw [nodeA_eq] at h0
 simp at hlen
 refine CW.hide fun R0 hR0 => ?_
 have hfl := lt_of_obj hc
 generalize hrs : restS (rd N g) (t.kids.drop src) = rs at *
 have done : ∀ (tok : Tok) (tm : List AV) (σ' : Sto), Ext (setF σ fid rs.2) σ' → tm.length = 35 → slot tm 6 = .sl rs.1 tok → R0 .ret tm σ' := by
  intro tok tm σ' hx hlen h6
  refine hR0 _ _ _ ⟨.sl rs.1 tok, ?_, tok, rfl, hx⟩
  simp [resultsA, omap, res_tmp, slot_eq, slot_ne, hlen, h6]
 clear hR0
 refine CW.seqK fun K hK => CW.region ?_
 simp (maxDischargeDepth := 16) [symB, List.length_set, andThen, hlen, h0]
 refine hK _ _ ?_; clear hK K
 refine CW.seqK fun K hK => CW.region ?_
 simp (maxDischargeDepth := 16) [symB, List.length_set, andThen, hlen]
 refine hK _ _ ?_; clear hK K
 refine CW.seqK fun K hK => ?_
 refine CW.seqK fun K hK => CW.region ?_
 simp (maxDischargeDepth := 16) [symB, List.length_set, andThen, hlen, h1]
 refine hK _ _ ?_; clear hK K
 refine CW.reset2 (fun tm σ1 => tm.length = 35 ∧ slot tm 2 = .fn (.func (fidOf g)) [] [] ∧ slot tm 3 = .ptr σ.length 0 ∧ slot tm 7 = .sl [] .full ∧ slot tm 8 = .lit (.int .i64 src) ∧ σ1 = σ ++ [nodeO t fid]) ⟨by simp [hlen], by simp [slot_ne, h2], by simp [slot_eq, slot_ne, hlen], by simp [slot_eq, slot_ne, hlen], by simp [slot_eq, slot_ne, hlen], rfl⟩ ?_
 clear h0 h1 h2 hlen tm
 rintro tm σ0 ⟨hlen, h2, h3, h7, h8, hσ0⟩
 have hb0 : σ0[σ.length]? = some (.cells [.lit (.string (bs t.word)), .sl (rowsOf t.kids) .no, .lit (.bool t.row), .lit (.int .i64 t.at_), .ptr fid 0] 57) := by rw [hσ0]; exact get_new _ _ _
 have hx0 : Ext σ σ0 := by rw [hσ0]; exact ⟨_, rfl⟩
 have hc0 : σ0[fid]? = some cleanO := by rw [hσ0]; exact get_app hc
 clear hσ0
 have hkl : (rowsOf t.kids).length = t.kids.length := rowsOf_length _
 refine CW.block ?_
 refine CW.hide fun R hR => ?_
 refine CW.loopI (fun r tm σ1 => tm.length = 35 ∧ slot tm 2 = .fn (.func (fidOf g)) [] [] ∧ slot tm 3 = .ptr σ.length 0 ∧ σ1[σ.length]? = some (.cells [.lit (.string (bs t.word)), .sl (rowsOf t.kids) .no, .lit (.bool t.row), .lit (.int .i64 t.at_), .ptr fid 0] 57) ∧ ∃ (i : Nat) (rows : List (List AV)) (tok : Tok), slot tm 7 = .sl rows tok ∧ slot tm 8 = .lit (.int .i64 i) ∧ i ≤ t.kids.length ∧
     ((r = t.kids.length - i + 1 ∧ rows.length ≤ i ∧ (∀ e ∈ rows, e.length = 2) ∧ rs = (rows ++ (restS (rd N g) (t.kids.drop i)).1, (restS (rd N g) (t.kids.drop i)).2) ∧ TokAt σ0 σ1 (rows.length * 2) 96 tok ∧ Ext σ0 σ1 ∧ σ1[fid]? = some cleanO) ∨
      (r = 0 ∧ ∃ p, rs = (rows, some p) ∧ σ1[fid]? = some (badO p) ∧ Ext (setF σ0 fid (some p)) σ1))) ?_ _ _ _
  ⟨hlen, h2, h3, hb0, src, [], .full, h7, h8, hfrom, .inl ⟨rfl, by simp, by simp, by rw [hrs]; rfl, .inl ⟨rfl, by simp⟩, Ext.refl _, hc0⟩⟩
 clear h2 h3 h7 h8 hlen tm
 rintro r tm σ1 ⟨hlen, h2, h3, hb, i, rows, tok, h7, h8, hi, hAB⟩
 refine CW.hide fun R2 hR2 => ?_
 refine CW.seqK fun K3 hK3 => ?_
 refine CW.seqK fun K4 hK4 => CW.region ?_
 have fin : ∀ (tm : List AV) (σ1 : Sto) (tok : Tok), Ext (setF σ fid rs.2) σ1 → tm.length = 35 → slot tm 7 = .sl rs.1 tok → K tm σ1 := by
  intro tm σ1 tok hx hlen h7
  refine hK _ _ ?_
  refine CW.seqK fun K hK => CW.region ?_
  simp (maxDischargeDepth := 16) [symB, List.length_set, andThen, hlen, h7]
  refine hK _ _ ?_; clear hK K
  exact CW.ret (done tok _ _ hx (by simp [hlen]) (by simp [slot_eq, slot_ne, hlen]))
 clear done hK
 have out : ∀ (tm : List AV) (σ1 : Sto) (tok : Tok), Ext (setF σ fid rs.2) σ1 → tm.length = 35 → slot tm 7 = .sl rs.1 tok → slot tm 23 = .lit (.bool false) → K4 tm σ1 := by
  intro tm σ1 tok hx hlen h7 h23
  refine hK4 _ _ ?_
  refine CW.cond (t := false) (by simp [evx_tmp, slot_eq, slot_ne, hlen, h23]) ?_
  refine CW.exit ?_
  simp only [andThen]
  refine hR2 _ _ _ (hR _ _ _ ?_)
  simp only [outOf, if_true, andThen]
  exact fin _ _ tok hx hlen h7
 clear fin
 rcases hAB with ⟨rfl, hri, hrk, hrs2, htok, hext, hcl⟩ | ⟨rfl, p, hrs2, hbad, hext⟩
 · by_cases hlt : i < t.kids.length
   · have hlt' : (i : Int) < t.kids.length := by omega
     have hcl2 := hcl
     unfold cleanO boolA at hcl2
     simp (maxDischargeDepth := 16) [symB, List.length_set, andThen, hlen, h3, h8, hb, hkl, hlt', hlt, hcl2]
     refine hK4 _ _ ?_
     refine CW.cond (t := true) (by simp [evx_tmp, slot_eq, slot_ne, hlen, hlt]) ?_
     refine CW.skip ?_
     simp only [andThen]
     refine hK3 _ _ ?_; clear hK3 K3 hK4 K4 out
     refine CW.seqK fun K5 hK5 => CW.block (CW.region ?_)
     have hget : t.kids[i]? = some t.kids[i] := List.getElem?_eq_getElem hlt
     have hmem := List.getElem_mem hlt
     have hdrop : t.kids.drop i = t.kids[i] :: t.kids.drop (i + 1) := List.drop_eq_getElem_cons hlt
     generalize t.kids[i] = u at *
     simp (maxDischargeDepth := 16) [symB, List.length_set, andThen, outOf, hlen, h2, h3, h7, h8, hb]
     rw [← nodeA_eq]
     refine (kid_ev N hget hl).mono ?_
     rintro r2 σ2 ⟨rfl, hx2⟩
     refine Classical.byContradiction fun hno => ?_
     have hrk2 : rank g ≤ N := by have := hn u hmem; omega
     have hvc := (valR_cells (t := u) hrk2).1
     have hvt := (valR_cells (t := u) hrk2).2
     have hvl := rd_len N g u hrk2
     have hok := rd_ok N g u
     rw [hg] at hvl
     rw [hdrop, restS_cons] at hrs2
     have htok2 := htok.ext hx2
     have hcl3 := hx2.get hcl
     have hb3 := hx2.get hb
     have hext2 := hext.trans hx2
     have hwk : IntKind.i64.wrap ((i : Int) + 1) = ((i + 1 : Nat) : Int) := wrap_succ (by omega)
     have hnf : σ.length ≠ fid := by omega
     have hfu := fineL_mem hf hmem
     have hnu := hn u hmem
     clear hx2
     cases hq : (rd N g u).2 with
     | none =>
      obtain ⟨t', σ5, acc, hext5, htok5, hap⟩ := append_at (P := Tryz.prog) (M := []) (σ0 := σ0) (σ := σ2) (es := rows) (tok := tok) (tk := .full) (fs := [(rd N g u).1]) (t := 91) Tryz.underlying91 szOf_96 bytesOf_96 zeroOf_96 rfl
       htok2 hext2 (head_len hrk) (by simp [hvl]) (by simp) (by simp; omega) (by simp; omega)
      rw [stripRows_ok hok] at hap
      simp only [hq] at hrs2
      refine hno ?_
      clear hno
      simp (maxDischargeDepth := 16) [symB, List.length_set, retK, andThen, outOf, hlen, h2, h3, h7, h8, hb3]
      refine rd_ev g hfu hnu hcl3 ?_
      rw [hq]
      simp only [setF]
      generalize (rd N g u).1 = v at *
      generalize valR g v = vv at *
      have htp := take_put hvl
      simp (maxDischargeDepth := 16) [symB, List.length_set, retK, andThen, outOf, hlen, h2, h3, h7, h8, hb3, hvc, hvt, hvl, htp, hap]
      refine hK5 _ _ ?_
      refine CW.region ?_
      simp (maxDischargeDepth := 16) [symB, List.length_set, andThen, hlen, h8, hwk]
      refine hR2 _ _ _ ⟨t.kids.length - (i + 1) + 1, by omega, by simp [hlen], by simp [slot_ne, h2], by simp [slot_ne, h3], hext5.get hb0, i + 1, rows ++ [v], t', by simp [slot_eq, slot_ne, hlen], by simp [slot_eq, hlen], hlt, .inl ⟨rfl, by simp; omega, ?_, ?_, by simpa using htok5, hext5, hext5.get hc0⟩⟩
      · intro e he
        rcases List.mem_append.1 he with he | he
        · exact hrk e he
        · rw [List.mem_singleton.1 he]; exact hvl
      · rw [hrs2]; simp
     | some p =>
      have htok3 := htok2.setF (lt_of_obj hc0) (some p)
      have hext3 := setF_ext (some p) hext2 (lt_of_obj hc0)
      obtain ⟨t', σ5, acc, hext5, htok5, hap⟩ := append_at (P := Tryz.prog) (M := []) (σ0 := setF σ0 fid (some p)) (σ := setF σ2 fid (some p)) (es := rows) (tok := tok) (tk := .full) (fs := [(rd N g u).1]) (t := 91) Tryz.underlying91 szOf_96 bytesOf_96 zeroOf_96 rfl
       htok3 hext3 (head_len hrk) (by simp [hvl]) (by simp) (by simp; omega) (by simp; omega)
      rw [stripRows_ok hok] at hap
      simp only [hq] at hrs2
      refine hno ?_
      clear hno
      simp (maxDischargeDepth := 16) [symB, List.length_set, retK, andThen, outOf, hlen, h2, h3, h7, h8, hb3]
      refine rd_ev g hfu hnu hcl3 ?_
      rw [hq]
      have hb6 := hext5.get ((setF_ne (some p) hnf).trans hb0)
      have hf6 : σ5[fid]? = some (badO p) := hext5.get (List.getElem?_set_self (lt_of_obj hc0))
      generalize setF σ2 fid (some p) = σ3 at *
      generalize (rd N g u).1 = v at *
      generalize valR g v = vv at *
      have htp := take_put hvl
      simp (maxDischargeDepth := 16) [symB, List.length_set, retK, andThen, outOf, hlen, h2, h3, h7, h8, hb3, hvc, hvt, hvl, htp, hap]
      refine hK5 _ _ ?_
      refine CW.region ?_
      simp (maxDischargeDepth := 16) [symB, List.length_set, andThen, hlen, h8, hwk]
      refine hR2 _ _ _ ⟨0, by omega, by simp [hlen], by simp [slot_ne, h2], by simp [slot_ne, h3], hb6, i + 1, rows ++ [v], t', by simp [slot_eq, slot_ne, hlen], by simp [slot_eq, hlen], hlt, .inr ⟨rfl, p, hrs2, hf6, hext5⟩⟩
   · have hlt' : ¬ (i : Int) < t.kids.length := by omega
     simp (maxDischargeDepth := 16) [symB, List.length_set, andThen, hlen, h3, h8, hb, hkl, hlt', hlt]
     rw [List.drop_of_length_le (by omega)] at hrs2
     simp only [restS, List.append_nil] at hrs2
     subst hrs2
     exact out _ _ tok (hx0.trans hext) (by simp [hlen]) (by simp [slot_ne, h7]) (by simp [slot_eq, slot_ne, hlen, hlt])
 · unfold badO boolA at hbad
   have he : rs.1 = rows ∧ rs.2 = some p := by rw [hrs2]; exact ⟨rfl, rfl⟩
   by_cases hlt : i < t.kids.length
   · have hlt' : (i : Int) < t.kids.length := by omega
     simp (maxDischargeDepth := 16) [symB, List.length_set, andThen, hlen, h3, h8, hb, hkl, hlt', hlt, hbad]
     exact out _ _ tok (by rw [he.2]; exact (setF_ext _ hx0 hfl).trans hext) (by simp [hlen]) (by simp [slot_ne, h7, he.1]) (by simp [slot_eq, slot_ne, hlen, hlt])
   · have hlt' : ¬ (i : Int) < t.kids.length := by omega
     simp (maxDischargeDepth := 16) [symB, List.length_set, andThen, hlen, h3, h8, hb, hkl, hlt', hlt]
     exact out _ _ tok (by rw [he.2]; exact (setF_ext _ hx0 hfl).trans hext) (by simp [hlen]) (by simp [slot_ne, h7, he.1]) (by simp [slot_eq, slot_ne, hlen, hlt])
set_option maxRecDepth 100000 in
set_option maxHeartbeats 1000000 in
theorem rest_term_ev (N : Nat) (g : RF) (hg : lenR g = 5) {t : Tr} {fid src : Nat} {σ : Sto} (hf : fineL t.kids) (hn : ∀ u ∈ t.kids, 8 * sizeT u + rank g ≤ N) (hc : σ[fid]? = some cleanO) (hl : t.kids.length ≤ 1000000) (hfrom : src ≤ t.kids.length) :
    CallW Tryz.prog (EN N) 75 [nodeA t fid, .lit (.int .i64 src), .fn (.func (fidOf g)) [] []] σ fun r σ' => ∃ tok, r = .ret (.sl (restS (rd N g) (t.kids.drop src)).1 tok) ∧ Ext (setF σ fid (restS (rd N g) (t.kids.drop src)).2) σ' := by
 refine CallW.start (fn := Tryz.f75) (M := []) rfl rfl rfl rfl (by simp) fun tm hlen hs => ?_
 have h0 := hs 0 _ rfl
 have h1 := hs 1 _ rfl
 have h2 := hs 2 _ rfl
 clear hs
 rw [nodeA_eq] at h0
 simp at hlen
 refine CW.hide fun R0 hR0 => ?_
 have hfl := lt_of_obj hc
 generalize hrs : restS (rd N g) (t.kids.drop src) = rs at *
 have done : ∀ (tok : Tok) (tm : List AV) (σ' : Sto), Ext (setF σ fid rs.2) σ' → tm.length = 35 → slot tm 6 = .sl rs.1 tok → R0 .ret tm σ' := by
  intro tok tm σ' hx hlen h6
  refine hR0 _ _ _ ⟨.sl rs.1 tok, ?_, tok, rfl, hx⟩
  simp [resultsA, omap, res_tmp, slot_eq, slot_ne, hlen, h6]
 clear hR0
 refine CW.seqK fun K hK => CW.region ?_
 simp (maxDischargeDepth := 16) [symB, List.length_set, andThen, hlen, h0]
 refine hK _ _ ?_; clear hK K
 refine CW.seqK fun K hK => CW.region ?_
 simp (maxDischargeDepth := 16) [symB, List.length_set, andThen, hlen]
 refine hK _ _ ?_; clear hK K
 refine CW.seqK fun K hK => ?_
 refine CW.seqK fun K hK => CW.region ?_
 simp (maxDischargeDepth := 16) [symB, List.length_set, andThen, hlen, h1]
 refine hK _ _ ?_; clear hK K
 refine CW.reset2 (fun tm σ1 => tm.length = 35 ∧ slot tm 2 = .fn (.func (fidOf g)) [] [] ∧ slot tm 3 = .ptr σ.length 0 ∧ slot tm 7 = .sl [] .full ∧ slot tm 8 = .lit (.int .i64 src) ∧ σ1 = σ ++ [nodeO t fid]) ⟨by simp [hlen], by simp [slot_ne, h2], by simp [slot_eq, slot_ne, hlen], by simp [slot_eq, slot_ne, hlen], by simp [slot_eq, slot_ne, hlen], rfl⟩ ?_
 clear h0 h1 h2 hlen tm
 rintro tm σ0 ⟨hlen, h2, h3, h7, h8, hσ0⟩
 have hb0 : σ0[σ.length]? = some (.cells [.lit (.string (bs t.word)), .sl (rowsOf t.kids) .no, .lit (.bool t.row), .lit (.int .i64 t.at_), .ptr fid 0] 57) := by rw [hσ0]; exact get_new _ _ _
 have hx0 : Ext σ σ0 := by rw [hσ0]; exact ⟨_, rfl⟩
 have hc0 : σ0[fid]? = some cleanO := by rw [hσ0]; exact get_app hc
 clear hσ0
 have hkl : (rowsOf t.kids).length = t.kids.length := rowsOf_length _
 refine CW.block ?_
 refine CW.hide fun R hR => ?_
 refine CW.loopI (fun r tm σ1 => tm.length = 35 ∧ slot tm 2 = .fn (.func (fidOf g)) [] [] ∧ slot tm 3 = .ptr σ.length 0 ∧ σ1[σ.length]? = some (.cells [.lit (.string (bs t.word)), .sl (rowsOf t.kids) .no, .lit (.bool t.row), .lit (.int .i64 t.at_), .ptr fid 0] 57) ∧ ∃ (i : Nat) (rows : List (List AV)) (tok : Tok), slot tm 7 = .sl rows tok ∧ slot tm 8 = .lit (.int .i64 i) ∧ i ≤ t.kids.length ∧
     ((r = t.kids.length - i + 1 ∧ rows.length ≤ i ∧ (∀ e ∈ rows, e.length = 5) ∧ rs = (rows ++ (restS (rd N g) (t.kids.drop i)).1, (restS (rd N g) (t.kids.drop i)).2) ∧ TokAt σ0 σ1 (rows.length * 5) 41 tok ∧ Ext σ0 σ1 ∧ σ1[fid]? = some cleanO) ∨
      (r = 0 ∧ ∃ p, rs = (rows, some p) ∧ σ1[fid]? = some (badO p) ∧ Ext (setF σ0 fid (some p)) σ1))) ?_ _ _ _
  ⟨hlen, h2, h3, hb0, src, [], .full, h7, h8, hfrom, .inl ⟨rfl, by simp, by simp, by rw [hrs]; rfl, .inl ⟨rfl, by simp⟩, Ext.refl _, hc0⟩⟩
 clear h2 h3 h7 h8 hlen tm
 rintro r tm σ1 ⟨hlen, h2, h3, hb, i, rows, tok, h7, h8, hi, hAB⟩
 refine CW.hide fun R2 hR2 => ?_
 refine CW.seqK fun K3 hK3 => ?_
 refine CW.seqK fun K4 hK4 => CW.region ?_
 have fin : ∀ (tm : List AV) (σ1 : Sto) (tok : Tok), Ext (setF σ fid rs.2) σ1 → tm.length = 35 → slot tm 7 = .sl rs.1 tok → K tm σ1 := by
  intro tm σ1 tok hx hlen h7
  refine hK _ _ ?_
  refine CW.seqK fun K hK => CW.region ?_
  simp (maxDischargeDepth := 16) [symB, List.length_set, andThen, hlen, h7]
  refine hK _ _ ?_; clear hK K
  exact CW.ret (done tok _ _ hx (by simp [hlen]) (by simp [slot_eq, slot_ne, hlen]))
 clear done hK
 have out : ∀ (tm : List AV) (σ1 : Sto) (tok : Tok), Ext (setF σ fid rs.2) σ1 → tm.length = 35 → slot tm 7 = .sl rs.1 tok → slot tm 23 = .lit (.bool false) → K4 tm σ1 := by
  intro tm σ1 tok hx hlen h7 h23
  refine hK4 _ _ ?_
  refine CW.cond (t := false) (by simp [evx_tmp, slot_eq, slot_ne, hlen, h23]) ?_
  refine CW.exit ?_
  simp only [andThen]
  refine hR2 _ _ _ (hR _ _ _ ?_)
  simp only [outOf, if_true, andThen]
  exact fin _ _ tok hx hlen h7
 clear fin
 rcases hAB with ⟨rfl, hri, hrk, hrs2, htok, hext, hcl⟩ | ⟨rfl, p, hrs2, hbad, hext⟩
 · by_cases hlt : i < t.kids.length
   · have hlt' : (i : Int) < t.kids.length := by omega
     have hcl2 := hcl
     unfold cleanO boolA at hcl2
     simp (maxDischargeDepth := 16) [symB, List.length_set, andThen, hlen, h3, h8, hb, hkl, hlt', hlt, hcl2]
     refine hK4 _ _ ?_
     refine CW.cond (t := true) (by simp [evx_tmp, slot_eq, slot_ne, hlen, hlt]) ?_
     refine CW.skip ?_
     simp only [andThen]
     refine hK3 _ _ ?_; clear hK3 K3 hK4 K4 out
     refine CW.seqK fun K5 hK5 => CW.block (CW.region ?_)
     have hget : t.kids[i]? = some t.kids[i] := List.getElem?_eq_getElem hlt
     have hmem := List.getElem_mem hlt
     have hdrop : t.kids.drop i = t.kids[i] :: t.kids.drop (i + 1) := List.drop_eq_getElem_cons hlt
     generalize t.kids[i] = u at *
     simp (maxDischargeDepth := 16) [symB, List.length_set, andThen, outOf, hlen, h2, h3, h7, h8, hb]
     rw [← nodeA_eq]
     refine (kid_ev N hget hl).mono ?_
     rintro r2 σ2 ⟨rfl, hx2⟩
     refine Classical.byContradiction fun hno => ?_
     have hrk2 : rank g ≤ N := by have := hn u hmem; omega
     have hvc := (valR_cells (t := u) hrk2).1
     have hvt := (valR_cells (t := u) hrk2).2
     have hvl := rd_len N g u hrk2
     have hok := rd_ok N g u
     rw [hg] at hvl
     rw [hdrop, restS_cons] at hrs2
     have htok2 := htok.ext hx2
     have hcl3 := hx2.get hcl
     have hb3 := hx2.get hb
     have hext2 := hext.trans hx2
     have hwk : IntKind.i64.wrap ((i : Int) + 1) = ((i + 1 : Nat) : Int) := wrap_succ (by omega)
     have hnf : σ.length ≠ fid := by omega
     have hfu := fineL_mem hf hmem
     have hnu := hn u hmem
     clear hx2
     cases hq : (rd N g u).2 with
     | none =>
      obtain ⟨t', σ5, acc, hext5, htok5, hap⟩ := append_at (P := Tryz.prog) (M := []) (σ0 := σ0) (σ := σ2) (es := rows) (tok := tok) (tk := .full) (fs := [(rd N g u).1]) (t := 39) Tryz.underlying39 szOf_41 bytesOf_41 zeroOf_41 rfl
       htok2 hext2 (head_len hrk) (by simp [hvl]) (by simp) (by simp; omega) (by simp; omega)
      rw [stripRows_ok hok] at hap
      simp only [hq] at hrs2
      refine hno ?_
      clear hno
      simp (maxDischargeDepth := 16) [symB, List.length_set, retK, andThen, outOf, hlen, h2, h3, h7, h8, hb3]
      refine rd_ev g hfu hnu hcl3 ?_
      rw [hq]
      simp only [setF]
      generalize (rd N g u).1 = v at *
      generalize valR g v = vv at *
      have htp := take_put hvl
      simp (maxDischargeDepth := 16) [symB, List.length_set, retK, andThen, outOf, hlen, h2, h3, h7, h8, hb3, hvc, hvt, hvl, htp, hap]
      refine hK5 _ _ ?_
      refine CW.region ?_
      simp (maxDischargeDepth := 16) [symB, List.length_set, andThen, hlen, h8, hwk]
      refine hR2 _ _ _ ⟨t.kids.length - (i + 1) + 1, by omega, by simp [hlen], by simp [slot_ne, h2], by simp [slot_ne, h3], hext5.get hb0, i + 1, rows ++ [v], t', by simp [slot_eq, slot_ne, hlen], by simp [slot_eq, hlen], hlt, .inl ⟨rfl, by simp; omega, ?_, ?_, by simpa using htok5, hext5, hext5.get hc0⟩⟩
      · intro e he
        rcases List.mem_append.1 he with he | he
        · exact hrk e he
        · rw [List.mem_singleton.1 he]; exact hvl
      · rw [hrs2]; simp
     | some p =>
      have htok3 := htok2.setF (lt_of_obj hc0) (some p)
      have hext3 := setF_ext (some p) hext2 (lt_of_obj hc0)
      obtain ⟨t', σ5, acc, hext5, htok5, hap⟩ := append_at (P := Tryz.prog) (M := []) (σ0 := setF σ0 fid (some p)) (σ := setF σ2 fid (some p)) (es := rows) (tok := tok) (tk := .full) (fs := [(rd N g u).1]) (t := 39) Tryz.underlying39 szOf_41 bytesOf_41 zeroOf_41 rfl
       htok3 hext3 (head_len hrk) (by simp [hvl]) (by simp) (by simp; omega) (by simp; omega)
      rw [stripRows_ok hok] at hap
      simp only [hq] at hrs2
      refine hno ?_
      clear hno
      simp (maxDischargeDepth := 16) [symB, List.length_set, retK, andThen, outOf, hlen, h2, h3, h7, h8, hb3]
      refine rd_ev g hfu hnu hcl3 ?_
      rw [hq]
      have hb6 := hext5.get ((setF_ne (some p) hnf).trans hb0)
      have hf6 : σ5[fid]? = some (badO p) := hext5.get (List.getElem?_set_self (lt_of_obj hc0))
      generalize setF σ2 fid (some p) = σ3 at *
      generalize (rd N g u).1 = v at *
      generalize valR g v = vv at *
      have htp := take_put hvl
      simp (maxDischargeDepth := 16) [symB, List.length_set, retK, andThen, outOf, hlen, h2, h3, h7, h8, hb3, hvc, hvt, hvl, htp, hap]
      refine hK5 _ _ ?_
      refine CW.region ?_
      simp (maxDischargeDepth := 16) [symB, List.length_set, andThen, hlen, h8, hwk]
      refine hR2 _ _ _ ⟨0, by omega, by simp [hlen], by simp [slot_ne, h2], by simp [slot_ne, h3], hb6, i + 1, rows ++ [v], t', by simp [slot_eq, slot_ne, hlen], by simp [slot_eq, hlen], hlt, .inr ⟨rfl, p, hrs2, hf6, hext5⟩⟩
   · have hlt' : ¬ (i : Int) < t.kids.length := by omega
     simp (maxDischargeDepth := 16) [symB, List.length_set, andThen, hlen, h3, h8, hb, hkl, hlt', hlt]
     rw [List.drop_of_length_le (by omega)] at hrs2
     simp only [restS, List.append_nil] at hrs2
     subst hrs2
     exact out _ _ tok (hx0.trans hext) (by simp [hlen]) (by simp [slot_ne, h7]) (by simp [slot_eq, slot_ne, hlen, hlt])
 · unfold badO boolA at hbad
   have he : rs.1 = rows ∧ rs.2 = some p := by rw [hrs2]; exact ⟨rfl, rfl⟩
   by_cases hlt : i < t.kids.length
   · have hlt' : (i : Int) < t.kids.length := by omega
     simp (maxDischargeDepth := 16) [symB, List.length_set, andThen, hlen, h3, h8, hb, hkl, hlt', hlt, hbad]
     exact out _ _ tok (by rw [he.2]; exact (setF_ext _ hx0 hfl).trans hext) (by simp [hlen]) (by simp [slot_ne, h7, he.1]) (by simp [slot_eq, slot_ne, hlen, hlt])
   · have hlt' : ¬ (i : Int) < t.kids.length := by omega
     simp (maxDischargeDepth := 16) [symB, List.length_set, andThen, hlen, h3, h8, hb, hkl, hlt', hlt]
     exact out _ _ tok (by rw [he.2]; exact (setF_ext _ hx0 hfl).trans hext) (by simp [hlen]) (by simp [slot_ne, h7, he.1]) (by simp [slot_eq, slot_ne, hlen, hlt])
set_option maxRecDepth 100000 in
set_option maxHeartbeats 1000000 in
theorem rest_expr_ev (N : Nat) (g : RF) (hg : lenR g = 11) {t : Tr} {fid src : Nat} {σ : Sto} (hf : fineL t.kids) (hn : ∀ u ∈ t.kids, 8 * sizeT u + rank g ≤ N) (hc : σ[fid]? = some cleanO) (hl : t.kids.length ≤ 1000000) (hfrom : src ≤ t.kids.length) :
    CallW Tryz.prog (EN N) 102 [nodeA t fid, .lit (.int .i64 src), .fn (.func (fidOf g)) [] []] σ fun r σ' => ∃ tok, r = .ret (.sl (restS (rd N g) (t.kids.drop src)).1 tok) ∧ Ext (setF σ fid (restS (rd N g) (t.kids.drop src)).2) σ' := by
 refine CallW.start (fn := Tryz.f102) (M := []) rfl rfl rfl rfl (by simp) fun tm hlen hs => ?_
 have h0 := hs 0 _ rfl
 have h1 := hs 1 _ rfl
 have h2 := hs 2 _ rfl
 clear hs
 rw [nodeA_eq] at h0
 simp at hlen
 refine CW.hide fun R0 hR0 => ?_
 have hfl := lt_of_obj hc
 generalize hrs : restS (rd N g) (t.kids.drop src) = rs at *
 have done : ∀ (tok : Tok) (tm : List AV) (σ' : Sto), Ext (setF σ fid rs.2) σ' → tm.length = 35 → slot tm 6 = .sl rs.1 tok → R0 .ret tm σ' := by
  intro tok tm σ' hx hlen h6
  refine hR0 _ _ _ ⟨.sl rs.1 tok, ?_, tok, rfl, hx⟩
  simp [resultsA, omap, res_tmp, slot_eq, slot_ne, hlen, h6]
 clear hR0
 refine CW.seqK fun K hK => CW.region ?_
 simp (maxDischargeDepth := 16) [symB, List.length_set, andThen, hlen, h0]
 refine hK _ _ ?_; clear hK K
 refine CW.seqK fun K hK => CW.region ?_
 simp (maxDischargeDepth := 16) [symB, List.length_set, andThen, hlen]
 refine hK _ _ ?_; clear hK K
 refine CW.seqK fun K hK => ?_
 refine CW.seqK fun K hK => CW.region ?_
 simp (maxDischargeDepth := 16) [symB, List.length_set, andThen, hlen, h1]
 refine hK _ _ ?_; clear hK K
 refine CW.reset2 (fun tm σ1 => tm.length = 35 ∧ slot tm 2 = .fn (.func (fidOf g)) [] [] ∧ slot tm 3 = .ptr σ.length 0 ∧ slot tm 7 = .sl [] .full ∧ slot tm 8 = .lit (.int .i64 src) ∧ σ1 = σ ++ [nodeO t fid]) ⟨by simp [hlen], by simp [slot_ne, h2], by simp [slot_eq, slot_ne, hlen], by simp [slot_eq, slot_ne, hlen], by simp [slot_eq, slot_ne, hlen], rfl⟩ ?_
 clear h0 h1 h2 hlen tm
 rintro tm σ0 ⟨hlen, h2, h3, h7, h8, hσ0⟩
 have hb0 : σ0[σ.length]? = some (.cells [.lit (.string (bs t.word)), .sl (rowsOf t.kids) .no, .lit (.bool t.row), .lit (.int .i64 t.at_), .ptr fid 0] 57) := by rw [hσ0]; exact get_new _ _ _
 have hx0 : Ext σ σ0 := by rw [hσ0]; exact ⟨_, rfl⟩
 have hc0 : σ0[fid]? = some cleanO := by rw [hσ0]; exact get_app hc
 clear hσ0
 have hkl : (rowsOf t.kids).length = t.kids.length := rowsOf_length _
 refine CW.block ?_
 refine CW.hide fun R hR => ?_
 refine CW.loopI (fun r tm σ1 => tm.length = 35 ∧ slot tm 2 = .fn (.func (fidOf g)) [] [] ∧ slot tm 3 = .ptr σ.length 0 ∧ σ1[σ.length]? = some (.cells [.lit (.string (bs t.word)), .sl (rowsOf t.kids) .no, .lit (.bool t.row), .lit (.int .i64 t.at_), .ptr fid 0] 57) ∧ ∃ (i : Nat) (rows : List (List AV)) (tok : Tok), slot tm 7 = .sl rows tok ∧ slot tm 8 = .lit (.int .i64 i) ∧ i ≤ t.kids.length ∧
     ((r = t.kids.length - i + 1 ∧ rows.length ≤ i ∧ (∀ e ∈ rows, e.length = 11) ∧ rs = (rows ++ (restS (rd N g) (t.kids.drop i)).1, (restS (rd N g) (t.kids.drop i)).2) ∧ TokAt σ0 σ1 (rows.length * 11) 126 tok ∧ Ext σ0 σ1 ∧ σ1[fid]? = some cleanO) ∨
      (r = 0 ∧ ∃ p, rs = (rows, some p) ∧ σ1[fid]? = some (badO p) ∧ Ext (setF σ0 fid (some p)) σ1))) ?_ _ _ _
  ⟨hlen, h2, h3, hb0, src, [], .full, h7, h8, hfrom, .inl ⟨rfl, by simp, by simp, by rw [hrs]; rfl, .inl ⟨rfl, by simp⟩, Ext.refl _, hc0⟩⟩
 clear h2 h3 h7 h8 hlen tm
 rintro r tm σ1 ⟨hlen, h2, h3, hb, i, rows, tok, h7, h8, hi, hAB⟩
 refine CW.hide fun R2 hR2 => ?_
 refine CW.seqK fun K3 hK3 => ?_
 refine CW.seqK fun K4 hK4 => CW.region ?_
 have fin : ∀ (tm : List AV) (σ1 : Sto) (tok : Tok), Ext (setF σ fid rs.2) σ1 → tm.length = 35 → slot tm 7 = .sl rs.1 tok → K tm σ1 := by
  intro tm σ1 tok hx hlen h7
  refine hK _ _ ?_
  refine CW.seqK fun K hK => CW.region ?_
  simp (maxDischargeDepth := 16) [symB, List.length_set, andThen, hlen, h7]
  refine hK _ _ ?_; clear hK K
  exact CW.ret (done tok _ _ hx (by simp [hlen]) (by simp [slot_eq, slot_ne, hlen]))
 clear done hK
 have out : ∀ (tm : List AV) (σ1 : Sto) (tok : Tok), Ext (setF σ fid rs.2) σ1 → tm.length = 35 → slot tm 7 = .sl rs.1 tok → slot tm 23 = .lit (.bool false) → K4 tm σ1 := by
  intro tm σ1 tok hx hlen h7 h23
  refine hK4 _ _ ?_
  refine CW.cond (t := false) (by simp [evx_tmp, slot_eq, slot_ne, hlen, h23]) ?_
  refine CW.exit ?_
  simp only [andThen]
  refine hR2 _ _ _ (hR _ _ _ ?_)
  simp only [outOf, if_true, andThen]
  exact fin _ _ tok hx hlen h7
 clear fin
 rcases hAB with ⟨rfl, hri, hrk, hrs2, htok, hext, hcl⟩ | ⟨rfl, p, hrs2, hbad, hext⟩
 · by_cases hlt : i < t.kids.length
   · have hlt' : (i : Int) < t.kids.length := by omega
     have hcl2 := hcl
     unfold cleanO boolA at hcl2
     simp (maxDischargeDepth := 16) [symB, List.length_set, andThen, hlen, h3, h8, hb, hkl, hlt', hlt, hcl2]
     refine hK4 _ _ ?_
     refine CW.cond (t := true) (by simp [evx_tmp, slot_eq, slot_ne, hlen, hlt]) ?_
     refine CW.skip ?_
     simp only [andThen]
     refine hK3 _ _ ?_; clear hK3 K3 hK4 K4 out
     refine CW.seqK fun K5 hK5 => CW.block (CW.region ?_)
     have hget : t.kids[i]? = some t.kids[i] := List.getElem?_eq_getElem hlt
     have hmem := List.getElem_mem hlt
     have hdrop : t.kids.drop i = t.kids[i] :: t.kids.drop (i + 1) := List.drop_eq_getElem_cons hlt
     generalize t.kids[i] = u at *
     simp (maxDischargeDepth := 16) [symB, List.length_set, andThen, outOf, hlen, h2, h3, h7, h8, hb]
     rw [← nodeA_eq]
     refine (kid_ev N hget hl).mono ?_
     rintro r2 σ2 ⟨rfl, hx2⟩
     refine Classical.byContradiction fun hno => ?_
     have hrk2 : rank g ≤ N := by have := hn u hmem; omega
     have hvc := (valR_cells (t := u) hrk2).1
     have hvt := (valR_cells (t := u) hrk2).2
     have hvl := rd_len N g u hrk2
     have hok := rd_ok N g u
     rw [hg] at hvl
     rw [hdrop, restS_cons] at hrs2
     have htok2 := htok.ext hx2
     have hcl3 := hx2.get hcl
     have hb3 := hx2.get hb
     have hext2 := hext.trans hx2
     have hwk : IntKind.i64.wrap ((i : Int) + 1) = ((i + 1 : Nat) : Int) := wrap_succ (by omega)
     have hnf : σ.length ≠ fid := by omega
     have hfu := fineL_mem hf hmem
     have hnu := hn u hmem
     clear hx2
     cases hq : (rd N g u).2 with
     | none =>
      obtain ⟨t', σ5, acc, hext5, htok5, hap⟩ := append_at (P := Tryz.prog) (M := []) (σ0 := σ0) (σ := σ2) (es := rows) (tok := tok) (tk := .full) (fs := [(rd N g u).1]) (t := 124) Tryz.underlying124 szOf_126 bytesOf_126 zeroOf_126 rfl
       htok2 hext2 (head_len hrk) (by simp [hvl]) (by simp) (by simp; omega) (by simp; omega)
      rw [stripRows_ok hok] at hap
      simp only [hq] at hrs2
      refine hno ?_
      clear hno
      simp (maxDischargeDepth := 16) [symB, List.length_set, retK, andThen, outOf, hlen, h2, h3, h7, h8, hb3]
      refine rd_ev g hfu hnu hcl3 ?_
      rw [hq]
      simp only [setF]
      generalize (rd N g u).1 = v at *
      generalize valR g v = vv at *
      have htp := take_put hvl
      simp (maxDischargeDepth := 16) [symB, List.length_set, retK, andThen, outOf, hlen, h2, h3, h7, h8, hb3, hvc, hvt, hvl, htp, hap]
      refine hK5 _ _ ?_
      refine CW.region ?_
      simp (maxDischargeDepth := 16) [symB, List.length_set, andThen, hlen, h8, hwk]
      refine hR2 _ _ _ ⟨t.kids.length - (i + 1) + 1, by omega, by simp [hlen], by simp [slot_ne, h2], by simp [slot_ne, h3], hext5.get hb0, i + 1, rows ++ [v], t', by simp [slot_eq, slot_ne, hlen], by simp [slot_eq, hlen], hlt, .inl ⟨rfl, by simp; omega, ?_, ?_, by simpa using htok5, hext5, hext5.get hc0⟩⟩
      · intro e he
        rcases List.mem_append.1 he with he | he
        · exact hrk e he
        · rw [List.mem_singleton.1 he]; exact hvl
      · rw [hrs2]; simp
     | some p =>
      have htok3 := htok2.setF (lt_of_obj hc0) (some p)
      have hext3 := setF_ext (some p) hext2 (lt_of_obj hc0)
      obtain ⟨t', σ5, acc, hext5, htok5, hap⟩ := append_at (P := Tryz.prog) (M := []) (σ0 := setF σ0 fid (some p)) (σ := setF σ2 fid (some p)) (es := rows) (tok := tok) (tk := .full) (fs := [(rd N g u).1]) (t := 124) Tryz.underlying124 szOf_126 bytesOf_126 zeroOf_126 rfl
       htok3 hext3 (head_len hrk) (by simp [hvl]) (by simp) (by simp; omega) (by simp; omega)
      rw [stripRows_ok hok] at hap
      simp only [hq] at hrs2
      refine hno ?_
      clear hno
      simp (maxDischargeDepth := 16) [symB, List.length_set, retK, andThen, outOf, hlen, h2, h3, h7, h8, hb3]
      refine rd_ev g hfu hnu hcl3 ?_
      rw [hq]
      have hb6 := hext5.get ((setF_ne (some p) hnf).trans hb0)
      have hf6 : σ5[fid]? = some (badO p) := hext5.get (List.getElem?_set_self (lt_of_obj hc0))
      generalize setF σ2 fid (some p) = σ3 at *
      generalize (rd N g u).1 = v at *
      generalize valR g v = vv at *
      have htp := take_put hvl
      simp (maxDischargeDepth := 16) [symB, List.length_set, retK, andThen, outOf, hlen, h2, h3, h7, h8, hb3, hvc, hvt, hvl, htp, hap]
      refine hK5 _ _ ?_
      refine CW.region ?_
      simp (maxDischargeDepth := 16) [symB, List.length_set, andThen, hlen, h8, hwk]
      refine hR2 _ _ _ ⟨0, by omega, by simp [hlen], by simp [slot_ne, h2], by simp [slot_ne, h3], hb6, i + 1, rows ++ [v], t', by simp [slot_eq, slot_ne, hlen], by simp [slot_eq, hlen], hlt, .inr ⟨rfl, p, hrs2, hf6, hext5⟩⟩
   · have hlt' : ¬ (i : Int) < t.kids.length := by omega
     simp (maxDischargeDepth := 16) [symB, List.length_set, andThen, hlen, h3, h8, hb, hkl, hlt', hlt]
     rw [List.drop_of_length_le (by omega)] at hrs2
     simp only [restS, List.append_nil] at hrs2
     subst hrs2
     exact out _ _ tok (hx0.trans hext) (by simp [hlen]) (by simp [slot_ne, h7]) (by simp [slot_eq, slot_ne, hlen, hlt])
 · unfold badO boolA at hbad
   have he : rs.1 = rows ∧ rs.2 = some p := by rw [hrs2]; exact ⟨rfl, rfl⟩
   by_cases hlt : i < t.kids.length
   · have hlt' : (i : Int) < t.kids.length := by omega
     simp (maxDischargeDepth := 16) [symB, List.length_set, andThen, hlen, h3, h8, hb, hkl, hlt', hlt, hbad]
     exact out _ _ tok (by rw [he.2]; exact (setF_ext _ hx0 hfl).trans hext) (by simp [hlen]) (by simp [slot_ne, h7, he.1]) (by simp [slot_eq, slot_ne, hlen, hlt])
   · have hlt' : ¬ (i : Int) < t.kids.length := by omega
     simp (maxDischargeDepth := 16) [symB, List.length_set, andThen, hlen, h3, h8, hb, hkl, hlt', hlt]
     exact out _ _ tok (by rw [he.2]; exact (setF_ext _ hx0 hfl).trans hext) (by simp [hlen]) (by simp [slot_ne, h7, he.1]) (by simp [slot_eq, slot_ne, hlen, hlt])
set_option maxRecDepth 100000 in
set_option maxHeartbeats 1000000 in
theorem rest_sorted_ev (N : Nat) (g : RF) (hg : lenR g = 2) {t : Tr} {fid src : Nat} {σ : Sto} (hf : fineL t.kids) (hn : ∀ u ∈ t.kids, 8 * sizeT u + rank g ≤ N) (hc : σ[fid]? = some cleanO) (hl : t.kids.length ≤ 1000000) (hfrom : src ≤ t.kids.length) :
    CallW Tryz.prog (EN N) 133 [nodeA t fid, .lit (.int .i64 src), .fn (.func (fidOf g)) [] []] σ fun r σ' => ∃ tok, r = .ret (.sl (restS (rd N g) (t.kids.drop src)).1 tok) ∧ Ext (setF σ fid (restS (rd N g) (t.kids.drop src)).2) σ' := by
 refine CallW.start (fn := Tryz.f133) (M := []) rfl rfl rfl rfl (by simp) fun tm hlen hs => ?_
 have h0 := hs 0 _ rfl
 have h1 := hs 1 _ rfl
 have h2 := hs 2 _ rfl
 clear hs
 rw [nodeA_eq] at h0
 simp at hlen
 refine CW.hide fun R0 hR0 => ?_
 have hfl := lt_of_obj hc
 generalize hrs : restS (rd N g) (t.kids.drop src) = rs at *
 have done : ∀ (tok : Tok) (tm : List AV) (σ' : Sto), Ext (setF σ fid rs.2) σ' → tm.length = 35 → slot tm 6 = .sl rs.1 tok → R0 .ret tm σ' := by
  intro tok tm σ' hx hlen h6
  refine hR0 _ _ _ ⟨.sl rs.1 tok, ?_, tok, rfl, hx⟩
  simp [resultsA, omap, res_tmp, slot_eq, slot_ne, hlen, h6]
 clear hR0
 refine CW.seqK fun K hK => CW.region ?_
 simp (maxDischargeDepth := 16) [symB, List.length_set, andThen, hlen, h0]
 refine hK _ _ ?_; clear hK K
 refine CW.seqK fun K hK => CW.region ?_
 simp (maxDischargeDepth := 16) [symB, List.length_set, andThen, hlen]
 refine hK _ _ ?_; clear hK K
 refine CW.seqK fun K hK => ?_
 refine CW.seqK fun K hK => CW.region ?_
 simp (maxDischargeDepth := 16) [symB, List.length_set, andThen, hlen, h1]
 refine hK _ _ ?_; clear hK K
 refine CW.reset2 (fun tm σ1 => tm.length = 35 ∧ slot tm 2 = .fn (.func (fidOf g)) [] [] ∧ slot tm 3 = .ptr σ.length 0 ∧ slot tm 7 = .sl [] .full ∧ slot tm 8 = .lit (.int .i64 src) ∧ σ1 = σ ++ [nodeO t fid]) ⟨by simp [hlen], by simp [slot_ne, h2], by simp [slot_eq, slot_ne, hlen], by simp [slot_eq, slot_ne, hlen], by simp [slot_eq, slot_ne, hlen], rfl⟩ ?_
 clear h0 h1 h2 hlen tm
 rintro tm σ0 ⟨hlen, h2, h3, h7, h8, hσ0⟩
 have hb0 : σ0[σ.length]? = some (.cells [.lit (.string (bs t.word)), .sl (rowsOf t.kids) .no, .lit (.bool t.row), .lit (.int .i64 t.at_), .ptr fid 0] 57) := by rw [hσ0]; exact get_new _ _ _
 have hx0 : Ext σ σ0 := by rw [hσ0]; exact ⟨_, rfl⟩
 have hc0 : σ0[fid]? = some cleanO := by rw [hσ0]; exact get_app hc
 clear hσ0
 have hkl : (rowsOf t.kids).length = t.kids.length := rowsOf_length _
 refine CW.block ?_
 refine CW.hide fun R hR => ?_
 refine CW.loopI (fun r tm σ1 => tm.length = 35 ∧ slot tm 2 = .fn (.func (fidOf g)) [] [] ∧ slot tm 3 = .ptr σ.length 0 ∧ σ1[σ.length]? = some (.cells [.lit (.string (bs t.word)), .sl (rowsOf t.kids) .no, .lit (.bool t.row), .lit (.int .i64 t.at_), .ptr fid 0] 57) ∧ ∃ (i : Nat) (rows : List (List AV)) (tok : Tok), slot tm 7 = .sl rows tok ∧ slot tm 8 = .lit (.int .i64 i) ∧ i ≤ t.kids.length ∧
     ((r = t.kids.length - i + 1 ∧ rows.length ≤ i ∧ (∀ e ∈ rows, e.length = 2) ∧ rs = (rows ++ (restS (rd N g) (t.kids.drop i)).1, (restS (rd N g) (t.kids.drop i)).2) ∧ TokAt σ0 σ1 (rows.length * 2) 199 tok ∧ Ext σ0 σ1 ∧ σ1[fid]? = some cleanO) ∨
      (r = 0 ∧ ∃ p, rs = (rows, some p) ∧ σ1[fid]? = some (badO p) ∧ Ext (setF σ0 fid (some p)) σ1))) ?_ _ _ _
  ⟨hlen, h2, h3, hb0, src, [], .full, h7, h8, hfrom, .inl ⟨rfl, by simp, by simp, by rw [hrs]; rfl, .inl ⟨rfl, by simp⟩, Ext.refl _, hc0⟩⟩
 clear h2 h3 h7 h8 hlen tm
 rintro r tm σ1 ⟨hlen, h2, h3, hb, i, rows, tok, h7, h8, hi, hAB⟩
 refine CW.hide fun R2 hR2 => ?_
 refine CW.seqK fun K3 hK3 => ?_
 refine CW.seqK fun K4 hK4 => CW.region ?_
 have fin : ∀ (tm : List AV) (σ1 : Sto) (tok : Tok), Ext (setF σ fid rs.2) σ1 → tm.length = 35 → slot tm 7 = .sl rs.1 tok → K tm σ1 := by
  intro tm σ1 tok hx hlen h7
  refine hK _ _ ?_
  refine CW.seqK fun K hK => CW.region ?_
  simp (maxDischargeDepth := 16) [symB, List.length_set, andThen, hlen, h7]
  refine hK _ _ ?_; clear hK K
  exact CW.ret (done tok _ _ hx (by simp [hlen]) (by simp [slot_eq, slot_ne, hlen]))
 clear done hK
 have out : ∀ (tm : List AV) (σ1 : Sto) (tok : Tok), Ext (setF σ fid rs.2) σ1 → tm.length = 35 → slot tm 7 = .sl rs.1 tok → slot tm 23 = .lit (.bool false) → K4 tm σ1 := by
  intro tm σ1 tok hx hlen h7 h23
  refine hK4 _ _ ?_
  refine CW.cond (t := false) (by simp [evx_tmp, slot_eq, slot_ne, hlen, h23]) ?_
  refine CW.exit ?_
  simp only [andThen]
  refine hR2 _ _ _ (hR _ _ _ ?_)
  simp only [outOf, if_true, andThen]
  exact fin _ _ tok hx hlen h7
 clear fin
 rcases hAB with ⟨rfl, hri, hrk, hrs2, htok, hext, hcl⟩ | ⟨rfl, p, hrs2, hbad, hext⟩
 · by_cases hlt : i < t.kids.length
   · have hlt' : (i : Int) < t.kids.length := by omega
     have hcl2 := hcl
     unfold cleanO boolA at hcl2
     simp (maxDischargeDepth := 16) [symB, List.length_set, andThen, hlen, h3, h8, hb, hkl, hlt', hlt, hcl2]
     refine hK4 _ _ ?_
     refine CW.cond (t := true) (by simp [evx_tmp, slot_eq, slot_ne, hlen, hlt]) ?_
     refine CW.skip ?_
     simp only [andThen]
     refine hK3 _ _ ?_; clear hK3 K3 hK4 K4 out
     refine CW.seqK fun K5 hK5 => CW.block (CW.region ?_)
     have hget : t.kids[i]? = some t.kids[i] := List.getElem?_eq_getElem hlt
     have hmem := List.getElem_mem hlt
     have hdrop : t.kids.drop i = t.kids[i] :: t.kids.drop (i + 1) := List.drop_eq_getElem_cons hlt
     generalize t.kids[i] = u at *
     simp (maxDischargeDepth := 16) [symB, List.length_set, andThen, outOf, hlen, h2, h3, h7, h8, hb]
     rw [← nodeA_eq]
     refine (kid_ev N hget hl).mono ?_
     rintro r2 σ2 ⟨rfl, hx2⟩
     refine Classical.byContradiction fun hno => ?_
     have hrk2 : rank g ≤ N := by have := hn u hmem; omega
     have hvc := (valR_cells (t := u) hrk2).1
     have hvt := (valR_cells (t := u) hrk2).2
     have hvl := rd_len N g u hrk2
     have hok := rd_ok N g u
     rw [hg] at hvl
     rw [hdrop, restS_cons] at hrs2
     have htok2 := htok.ext hx2
     have hcl3 := hx2.get hcl
     have hb3 := hx2.get hb
     have hext2 := hext.trans hx2
     have hwk : IntKind.i64.wrap ((i : Int) + 1) = ((i + 1 : Nat) : Int) := wrap_succ (by omega)
     have hnf : σ.length ≠ fid := by omega
     have hfu := fineL_mem hf hmem
     have hnu := hn u hmem
     clear hx2
     cases hq : (rd N g u).2 with
     | none =>
      obtain ⟨t', σ5, acc, hext5, htok5, hap⟩ := append_at (P := Tryz.prog) (M := []) (σ0 := σ0) (σ := σ2) (es := rows) (tok := tok) (tk := .full) (fs := [(rd N g u).1]) (t := 99) Tryz.underlying99 szOf_199 bytesOf_199 zeroOf_199 rfl
       htok2 hext2 (head_len hrk) (by simp [hvl]) (by simp) (by simp; omega) (by simp; omega)
      rw [stripRows_ok hok] at hap
      simp only [hq] at hrs2
      refine hno ?_
      clear hno
      simp (maxDischargeDepth := 16) [symB, List.length_set, retK, andThen, outOf, hlen, h2, h3, h7, h8, hb3]
      refine rd_ev g hfu hnu hcl3 ?_
      rw [hq]
      simp only [setF]
      generalize (rd N g u).1 = v at *
      generalize valR g v = vv at *
      have htp := take_put hvl
      simp (maxDischargeDepth := 16) [symB, List.length_set, retK, andThen, outOf, hlen, h2, h3, h7, h8, hb3, hvc, hvt, hvl, htp, hap]
      refine hK5 _ _ ?_
      refine CW.region ?_
      simp (maxDischargeDepth := 16) [symB, List.length_set, andThen, hlen, h8, hwk]
      refine hR2 _ _ _ ⟨t.kids.length - (i + 1) + 1, by omega, by simp [hlen], by simp [slot_ne, h2], by simp [slot_ne, h3], hext5.get hb0, i + 1, rows ++ [v], t', by simp [slot_eq, slot_ne, hlen], by simp [slot_eq, hlen], hlt, .inl ⟨rfl, by simp; omega, ?_, ?_, by simpa using htok5, hext5, hext5.get hc0⟩⟩
      · intro e he
        rcases List.mem_append.1 he with he | he
        · exact hrk e he
        · rw [List.mem_singleton.1 he]; exact hvl
      · rw [hrs2]; simp
     | some p =>
      have htok3 := htok2.setF (lt_of_obj hc0) (some p)
      have hext3 := setF_ext (some p) hext2 (lt_of_obj hc0)
      obtain ⟨t', σ5, acc, hext5, htok5, hap⟩ := append_at (P := Tryz.prog) (M := []) (σ0 := setF σ0 fid (some p)) (σ := setF σ2 fid (some p)) (es := rows) (tok := tok) (tk := .full) (fs := [(rd N g u).1]) (t := 99) Tryz.underlying99 szOf_199 bytesOf_199 zeroOf_199 rfl
       htok3 hext3 (head_len hrk) (by simp [hvl]) (by simp) (by simp; omega) (by simp; omega)
      rw [stripRows_ok hok] at hap
      simp only [hq] at hrs2
      refine hno ?_
      clear hno
      simp (maxDischargeDepth := 16) [symB, List.length_set, retK, andThen, outOf, hlen, h2, h3, h7, h8, hb3]
      refine rd_ev g hfu hnu hcl3 ?_
      rw [hq]
      have hb6 := hext5.get ((setF_ne (some p) hnf).trans hb0)
      have hf6 : σ5[fid]? = some (badO p) := hext5.get (List.getElem?_set_self (lt_of_obj hc0))
      generalize setF σ2 fid (some p) = σ3 at *
      generalize (rd N g u).1 = v at *
      generalize valR g v = vv at *
      have htp := take_put hvl
      simp (maxDischargeDepth := 16) [symB, List.length_set, retK, andThen, outOf, hlen, h2, h3, h7, h8, hb3, hvc, hvt, hvl, htp, hap]
      refine hK5 _ _ ?_
      refine CW.region ?_
      simp (maxDischargeDepth := 16) [symB, List.length_set, andThen, hlen, h8, hwk]
      refine hR2 _ _ _ ⟨0, by omega, by simp [hlen], by simp [slot_ne, h2], by simp [slot_ne, h3], hb6, i + 1, rows ++ [v], t', by simp [slot_eq, slot_ne, hlen], by simp [slot_eq, hlen], hlt, .inr ⟨rfl, p, hrs2, hf6, hext5⟩⟩
   · have hlt' : ¬ (i : Int) < t.kids.length := by omega
     simp (maxDischargeDepth := 16) [symB, List.length_set, andThen, hlen, h3, h8, hb, hkl, hlt', hlt]
     rw [List.drop_of_length_le (by omega)] at hrs2
     simp only [restS, List.append_nil] at hrs2
     subst hrs2
     exact out _ _ tok (hx0.trans hext) (by simp [hlen]) (by simp [slot_ne, h7]) (by simp [slot_eq, slot_ne, hlen, hlt])
 · unfold badO boolA at hbad
   have he : rs.1 = rows ∧ rs.2 = some p := by rw [hrs2]; exact ⟨rfl, rfl⟩
   by_cases hlt : i < t.kids.length
   · have hlt' : (i : Int) < t.kids.length := by omega
     simp (maxDischargeDepth := 16) [symB, List.length_set, andThen, hlen, h3, h8, hb, hkl, hlt', hlt, hbad]
     exact out _ _ tok (by rw [he.2]; exact (setF_ext _ hx0 hfl).trans hext) (by simp [hlen]) (by simp [slot_ne, h7, he.1]) (by simp [slot_eq, slot_ne, hlen, hlt])
   · have hlt' : ¬ (i : Int) < t.kids.length := by omega
     simp (maxDischargeDepth := 16) [symB, List.length_set, andThen, hlen, h3, h8, hb, hkl, hlt', hlt]
     exact out _ _ tok (by rw [he.2]; exact (setF_ext _ hx0 hfl).trans hext) (by simp [hlen]) (by simp [slot_ne, h7, he.1]) (by simp [slot_eq, slot_ne, hlen, hlt])
set_option maxRecDepth 100000 in
theorem all_sorted_ev (N : Nat) (g : RF) (hg : lenR g = 2) {t : Tr} {fid : Nat} {σ : Sto} (hf : fineL t.kids) (hn : ∀ u ∈ t.kids, 8 * sizeT u + rank g ≤ N) (hc : σ[fid]? = some cleanO) (hl : t.kids.length ≤ 1000000) :
    CallW Tryz.prog (EN N) 94 [nodeA t fid, .fn (.func (fidOf g)) [] []] σ fun r σ' => ∃ tok, r = .ret (.sl (allS (rd N g) t).1 tok) ∧ Ext (setF σ fid (allS (rd N g) t).2) σ' := by
 refine CallW.start (fn := Tryz.f94) (M := []) rfl rfl rfl rfl (by simp) fun tm hlen hs => ?_
 have h0 := hs 0 _ rfl
 have h1 := hs 1 _ rfl
 clear hs
 rw [nodeA_eq] at h0
 simp at hlen
 refine CW.hide fun R0 hR0 => ?_
 have hfl := lt_of_obj hc
 generalize hrs : allS (rd N g) t = rs at *
 have done : ∀ (tok : Tok) (tm : List AV) (σ' : Sto), Ext (setF σ fid rs.2) σ' → tm.length = 14 → slot tm 4 = .sl rs.1 tok → R0 .ret tm σ' := by
  intro tok tm σ' hx hlen h6
  refine hR0 _ _ _ ⟨.sl rs.1 tok, ?_, tok, rfl, hx⟩
  simp [resultsA, omap, res_tmp, slot_eq, slot_ne, hlen, h6]
 clear hR0
 refine CW.seqK fun K hK => CW.region ?_
 simp (maxDischargeDepth := 16) [symB, List.length_set, andThen, hlen, h0]
 refine hK _ _ ?_; clear hK K
 refine CW.reset2 (fun tm σ1 => tm.length = 14 ∧ slot tm 1 = .fn (.func (fidOf g)) [] [] ∧ slot tm 2 = .ptr σ.length 0 ∧ σ1 = σ ++ [nodeO t fid]) ⟨by simp [hlen], by simp [slot_ne, h1], by simp [slot_eq, slot_ne, hlen], rfl⟩ ?_
 clear h0 h1 hlen tm
 rintro tm σ0 ⟨hlen, h1, h2, hσ0⟩
 have hb0 : σ0[σ.length]? = some (.cells [.lit (.string (bs t.word)), .sl (rowsOf t.kids) .no, .lit (.bool t.row), .lit (.int .i64 t.at_), .ptr fid 0] 57) := by rw [hσ0]; exact get_new _ _ _
 have hx0 : Ext σ σ0 := by rw [hσ0]; exact ⟨_, rfl⟩
 have hc0 : σ0[fid]? = some cleanO := by rw [hσ0]; exact get_app hc
 clear hσ0
 refine CW.seqK fun K hK => ?_
 refine CW.seqK fun K2 hK2 => CW.region ?_
 cases hrow : t.row with
 | false =>
  have hrs2 : rs = ([], some t.at_) := by rw [← hrs]; unfold allS; rw [hrow]; rfl
  rw [hrow] at hb0
  simp (maxDischargeDepth := 16) [symB, List.length_set, andThen, hlen, h2, hb0]
  refine hK2 _ _ ?_
  refine CW.cond (t := true) (by simp [evx_tmp, slot_eq, slot_ne, hlen]) ?_
  refine CW.seqK fun K3 hK3 => CW.region ?_
  simp (maxDischargeDepth := 16) [symB, List.length_set, andThen, hlen, h2, hb0]
  rw [← hrow, ← nodeA_eq]
  refine (fault_ev N t fid σ0 hc0).mono ?_
  rintro r σ2 ⟨rfl, hx2⟩
  simp (maxDischargeDepth := 16) [symB, List.length_set, andThen, hlen, retK]
  refine hK3 _ _ ?_
  refine CW.seqK fun K4 hK4 => CW.region ?_
  simp (maxDischargeDepth := 16) [symB, List.length_set, andThen, hlen]
  refine hK4 _ _ ?_
  refine CW.ret ?_
  simp only [andThen]
  exact done .full _ _ (by rw [hrs2]; exact (setF_ext _ hx0 hfl).trans hx2) (by simp [hlen]) (by simp [slot_eq, slot_ne, hlen, hrs2])
 | true =>
  have hrs2 : rs = restS (rd N g) (t.kids.drop 0) := by rw [← hrs]; unfold allS; rw [hrow]; rfl
  rw [hrow] at hb0
  simp (maxDischargeDepth := 16) [symB, List.length_set, andThen, hlen, h2, hb0]
  refine hK2 _ _ ?_
  refine CW.cond (t := false) (by simp [evx_tmp, slot_eq, slot_ne, hlen]) ?_
  refine CW.skip ?_
  simp only [andThen]
  refine hK _ _ ?_
  refine CW.seqK fun K3 hK3 => CW.region ?_
  simp (maxDischargeDepth := 16) [symB, List.length_set, andThen, hlen, h1, h2, hb0]
  rw [← hrow, ← nodeA_eq]
  refine (rest_sorted_ev N g hg (src := 0) hf hn hc0 hl (by omega)).mono ?_
  rintro r σ2 ⟨tok, rfl, hx2⟩
  rw [← hrs2] at hx2 ⊢
  simp (maxDischargeDepth := 16) [symB, List.length_set, andThen, hlen, retK]
  refine hK3 _ _ ?_
  refine CW.ret ?_
  exact done tok _ _ ((setF_ext _ hx0 hfl).trans hx2) (by simp [hlen]) (by simp [slot_eq, slot_ne, hlen])
set_option maxRecDepth 100000 in
set_option maxHeartbeats 1000000 in
theorem rest_param_ev (N : Nat) (g : RF) (hg : lenR g = 10) {t : Tr} {fid src : Nat} {σ : Sto} (hf : fineL t.kids) (hn : ∀ u ∈ t.kids, 8 * sizeT u + rank g ≤ N) (hc : σ[fid]? = some cleanO) (hl : t.kids.length ≤ 1000000) (hfrom : src ≤ t.kids.length) :
    CallW Tryz.prog (EN N) 134 [nodeA t fid, .lit (.int .i64 src), .fn (.func (fidOf g)) [] []] σ fun r σ' => ∃ tok, r = .ret (.sl (restS (rd N g) (t.kids.drop src)).1 tok) ∧ Ext (setF σ fid (restS (rd N g) (t.kids.drop src)).2) σ' := by
 refine CallW.start (fn := Tryz.f134) (M := []) rfl rfl rfl rfl (by simp) fun tm hlen hs => ?_
 have h0 := hs 0 _ rfl
 have h1 := hs 1 _ rfl
 have h2 := hs 2 _ rfl
 clear hs
 rw [nodeA_eq] at h0
 simp at hlen
 refine CW.hide fun R0 hR0 => ?_
 have hfl := lt_of_obj hc
 generalize hrs : restS (rd N g) (t.kids.drop src) = rs at *
 have done : ∀ (tok : Tok) (tm : List AV) (σ' : Sto), Ext (setF σ fid rs.2) σ' → tm.length = 35 → slot tm 6 = .sl rs.1 tok → R0 .ret tm σ' := by
  intro tok tm σ' hx hlen h6
  refine hR0 _ _ _ ⟨.sl rs.1 tok, ?_, tok, rfl, hx⟩
  simp [resultsA, omap, res_tmp, slot_eq, slot_ne, hlen, h6]
 clear hR0
 refine CW.seqK fun K hK => CW.region ?_
 simp (maxDischargeDepth := 16) [symB, List.length_set, andThen, hlen, h0]
 refine hK _ _ ?_; clear hK K
 refine CW.seqK fun K hK => CW.region ?_
 simp (maxDischargeDepth := 16) [symB, List.length_set, andThen, hlen]
 refine hK _ _ ?_; clear hK K
 refine CW.seqK fun K hK => ?_
 refine CW.seqK fun K hK => CW.region ?_
 simp (maxDischargeDepth := 16) [symB, List.length_set, andThen, hlen, h1]
 refine hK _ _ ?_; clear hK K
 refine CW.reset2 (fun tm σ1 => tm.length = 35 ∧ slot tm 2 = .fn (.func (fidOf g)) [] [] ∧ slot tm 3 = .ptr σ.length 0 ∧ slot tm 7 = .sl [] .full ∧ slot tm 8 = .lit (.int .i64 src) ∧ σ1 = σ ++ [nodeO t fid]) ⟨by simp [hlen], by simp [slot_ne, h2], by simp [slot_eq, slot_ne, hlen], by simp [slot_eq, slot_ne, hlen], by simp [slot_eq, slot_ne, hlen], rfl⟩ ?_
 clear h0 h1 h2 hlen tm
 rintro tm σ0 ⟨hlen, h2, h3, h7, h8, hσ0⟩
 have hb0 : σ0[σ.length]? = some (.cells [.lit (.string (bs t.word)), .sl (rowsOf t.kids) .no, .lit (.bool t.row), .lit (.int .i64 t.at_), .ptr fid 0] 57) := by rw [hσ0]; exact get_new _ _ _
 have hx0 : Ext σ σ0 := by rw [hσ0]; exact ⟨_, rfl⟩
 have hc0 : σ0[fid]? = some cleanO := by rw [hσ0]; exact get_app hc
 clear hσ0
 have hkl : (rowsOf t.kids).length = t.kids.length := rowsOf_length _
 refine CW.block ?_
 refine CW.hide fun R hR => ?_
 refine CW.loopI (fun r tm σ1 => tm.length = 35 ∧ slot tm 2 = .fn (.func (fidOf g)) [] [] ∧ slot tm 3 = .ptr σ.length 0 ∧ σ1[σ.length]? = some (.cells [.lit (.string (bs t.word)), .sl (rowsOf t.kids) .no, .lit (.bool t.row), .lit (.int .i64 t.at_), .ptr fid 0] 57) ∧ ∃ (i : Nat) (rows : List (List AV)) (tok : Tok), slot tm 7 = .sl rows tok ∧ slot tm 8 = .lit (.int .i64 i) ∧ i ≤ t.kids.length ∧
     ((r = t.kids.length - i + 1 ∧ rows.length ≤ i ∧ (∀ e ∈ rows, e.length = 10) ∧ rs = (rows ++ (restS (rd N g) (t.kids.drop i)).1, (restS (rd N g) (t.kids.drop i)).2) ∧ TokAt σ0 σ1 (rows.length * 10) 204 tok ∧ Ext σ0 σ1 ∧ σ1[fid]? = some cleanO) ∨
      (r = 0 ∧ ∃ p, rs = (rows, some p) ∧ σ1[fid]? = some (badO p) ∧ Ext (setF σ0 fid (some p)) σ1))) ?_ _ _ _
  ⟨hlen, h2, h3, hb0, src, [], .full, h7, h8, hfrom, .inl ⟨rfl, by simp, by simp, by rw [hrs]; rfl, .inl ⟨rfl, by simp⟩, Ext.refl _, hc0⟩⟩
 clear h2 h3 h7 h8 hlen tm
 rintro r tm σ1 ⟨hlen, h2, h3, hb, i, rows, tok, h7, h8, hi, hAB⟩
 refine CW.hide fun R2 hR2 => ?_
 refine CW.seqK fun K3 hK3 => ?_
 refine CW.seqK fun K4 hK4 => CW.region ?_
 have fin : ∀ (tm : List AV) (σ1 : Sto) (tok : Tok), Ext (setF σ fid rs.2) σ1 → tm.length = 35 → slot tm 7 = .sl rs.1 tok → K tm σ1 := by
  intro tm σ1 tok hx hlen h7
  refine hK _ _ ?_
  refine CW.seqK fun K hK => CW.region ?_
  simp (maxDischargeDepth := 16) [symB, List.length_set, andThen, hlen, h7]
  refine hK _ _ ?_; clear hK K
  exact CW.ret (done tok _ _ hx (by simp [hlen]) (by simp [slot_eq, slot_ne, hlen]))
 clear done hK
 have out : ∀ (tm : List AV) (σ1 : Sto) (tok : Tok), Ext (setF σ fid rs.2) σ1 → tm.length = 35 → slot tm 7 = .sl rs.1 tok → slot tm 23 = .lit (.bool false) → K4 tm σ1 := by
  intro tm σ1 tok hx hlen h7 h23
  refine hK4 _ _ ?_
  refine CW.cond (t := false) (by simp [evx_tmp, slot_eq, slot_ne, hlen, h23]) ?_
  refine CW.exit ?_
  simp only [andThen]
  refine hR2 _ _ _ (hR _ _ _ ?_)
  simp only [outOf, if_true, andThen]
  exact fin _ _ tok hx hlen h7
 clear fin
 rcases hAB with ⟨rfl, hri, hrk, hrs2, htok, hext, hcl⟩ | ⟨rfl, p, hrs2, hbad, hext⟩
 · by_cases hlt : i < t.kids.length
   · have hlt' : (i : Int) < t.kids.length := by omega
     have hcl2 := hcl
     unfold cleanO boolA at hcl2
     simp (maxDischargeDepth := 16) [symB, List.length_set, andThen, hlen, h3, h8, hb, hkl, hlt', hlt, hcl2]
     refine hK4 _ _ ?_
     refine CW.cond (t := true) (by simp [evx_tmp, slot_eq, slot_ne, hlen, hlt]) ?_
     refine CW.skip ?_
     simp only [andThen]
     refine hK3 _ _ ?_; clear hK3 K3 hK4 K4 out
     refine CW.seqK fun K5 hK5 => CW.block (CW.region ?_)
     have hget : t.kids[i]? = some t.kids[i] := List.getElem?_eq_getElem hlt
     have hmem := List.getElem_mem hlt
     have hdrop : t.kids.drop i = t.kids[i] :: t.kids.drop (i + 1) := List.drop_eq_getElem_cons hlt
     generalize t.kids[i] = u at *
     simp (maxDischargeDepth := 16) [symB, List.length_set, andThen, outOf, hlen, h2, h3, h7, h8, hb]
     rw [← nodeA_eq]
     refine (kid_ev N hget hl).mono ?_
     rintro r2 σ2 ⟨rfl, hx2⟩
     refine Classical.byContradiction fun hno => ?_
     have hrk2 : rank g ≤ N := by have := hn u hmem; omega
     have hvc := (valR_cells (t := u) hrk2).1
     have hvt := (valR_cells (t := u) hrk2).2
     have hvl := rd_len N g u hrk2
     have hok := rd_ok N g u
     rw [hg] at hvl
     rw [hdrop, restS_cons] at hrs2
     have htok2 := htok.ext hx2
     have hcl3 := hx2.get hcl
     have hb3 := hx2.get hb
     have hext2 := hext.trans hx2
     have hwk : IntKind.i64.wrap ((i : Int) + 1) = ((i + 1 : Nat) : Int) := wrap_succ (by omega)
     have hnf : σ.length ≠ fid := by omega
     have hfu := fineL_mem hf hmem
     have hnu := hn u hmem
     clear hx2
     cases hq : (rd N g u).2 with
     | none =>
      obtain ⟨t', σ5, acc, hext5, htok5, hap⟩ := append_at (P := Tryz.prog) (M := []) (σ0 := σ0) (σ := σ2) (es := rows) (tok := tok) (tk := .full) (fs := [(rd N g u).1]) (t := 114) Tryz.underlying114 szOf_204 bytesOf_204 zeroOf_204 rfl
       htok2 hext2 (head_len hrk) (by simp [hvl]) (by simp) (by simp; omega) (by simp; omega)
      rw [stripRows_ok hok] at hap
      simp only [hq] at hrs2
      refine hno ?_
      clear hno
      simp (maxDischargeDepth := 16) [symB, List.length_set, retK, andThen, outOf, hlen, h2, h3, h7, h8, hb3]
      refine rd_ev g hfu hnu hcl3 ?_
      rw [hq]
      simp only [setF]
      generalize (rd N g u).1 = v at *
      generalize valR g v = vv at *
      have htp := take_put hvl
      simp (maxDischargeDepth := 16) [symB, List.length_set, retK, andThen, outOf, hlen, h2, h3, h7, h8, hb3, hvc, hvt, hvl, htp, hap]
      refine hK5 _ _ ?_
      refine CW.region ?_
      simp (maxDischargeDepth := 16) [symB, List.length_set, andThen, hlen, h8, hwk]
      refine hR2 _ _ _ ⟨t.kids.length - (i + 1) + 1, by omega, by simp [hlen], by simp [slot_ne, h2], by simp [slot_ne, h3], hext5.get hb0, i + 1, rows ++ [v], t', by simp [slot_eq, slot_ne, hlen], by simp [slot_eq, hlen], hlt, .inl ⟨rfl, by simp; omega, ?_, ?_, by simpa using htok5, hext5, hext5.get hc0⟩⟩
      · intro e he
        rcases List.mem_append.1 he with he | he
        · exact hrk e he
        · rw [List.mem_singleton.1 he]; exact hvl
      · rw [hrs2]; simp
     | some p =>
      have htok3 := htok2.setF (lt_of_obj hc0) (some p)
      have hext3 := setF_ext (some p) hext2 (lt_of_obj hc0)
      obtain ⟨t', σ5, acc, hext5, htok5, hap⟩ := append_at (P := Tryz.prog) (M := []) (σ0 := setF σ0 fid (some p)) (σ := setF σ2 fid (some p)) (es := rows) (tok := tok) (tk := .full) (fs := [(rd N g u).1]) (t := 114) Tryz.underlying114 szOf_204 bytesOf_204 zeroOf_204 rfl
       htok3 hext3 (head_len hrk) (by simp [hvl]) (by simp) (by simp; omega) (by simp; omega)
      rw [stripRows_ok hok] at hap
      simp only [hq] at hrs2
      refine hno ?_
      clear hno
      simp (maxDischargeDepth := 16) [symB, List.length_set, retK, andThen, outOf, hlen, h2, h3, h7, h8, hb3]
      refine rd_ev g hfu hnu hcl3 ?_
      rw [hq]
      have hb6 := hext5.get ((setF_ne (some p) hnf).trans hb0)
      have hf6 : σ5[fid]? = some (badO p) := hext5.get (List.getElem?_set_self (lt_of_obj hc0))
      generalize setF σ2 fid (some p) = σ3 at *
      generalize (rd N g u).1 = v at *
      generalize valR g v = vv at *
      have htp := take_put hvl
      simp (maxDischargeDepth := 16) [symB, List.length_set, retK, andThen, outOf, hlen, h2, h3, h7, h8, hb3, hvc, hvt, hvl, htp, hap]
      refine hK5 _ _ ?_
      refine CW.region ?_
      simp (maxDischargeDepth := 16) [symB, List.length_set, andThen, hlen, h8, hwk]
      refine hR2 _ _ _ ⟨0, by omega, by simp [hlen], by simp [slot_ne, h2], by simp [slot_ne, h3], hb6, i + 1, rows ++ [v], t', by simp [slot_eq, slot_ne, hlen], by simp [slot_eq, hlen], hlt, .inr ⟨rfl, p, hrs2, hf6, hext5⟩⟩
   · have hlt' : ¬ (i : Int) < t.kids.length := by omega
     simp (maxDischargeDepth := 16) [symB, List.length_set, andThen, hlen, h3, h8, hb, hkl, hlt', hlt]
     rw [List.drop_of_length_le (by omega)] at hrs2
     simp only [restS, List.append_nil] at hrs2
     subst hrs2
     exact out _ _ tok (hx0.trans hext) (by simp [hlen]) (by simp [slot_ne, h7]) (by simp [slot_eq, slot_ne, hlen, hlt])
 · unfold badO boolA at hbad
   have he : rs.1 = rows ∧ rs.2 = some p := by rw [hrs2]; exact ⟨rfl, rfl⟩
   by_cases hlt : i < t.kids.length
   · have hlt' : (i : Int) < t.kids.length := by omega
     simp (maxDischargeDepth := 16) [symB, List.length_set, andThen, hlen, h3, h8, hb, hkl, hlt', hlt, hbad]
     exact out _ _ tok (by rw [he.2]; exact (setF_ext _ hx0 hfl).trans hext) (by simp [hlen]) (by simp [slot_ne, h7, he.1]) (by simp [slot_eq, slot_ne, hlen, hlt])
   · have hlt' : ¬ (i : Int) < t.kids.length := by omega
     simp (maxDischargeDepth := 16) [symB, List.length_set, andThen, hlen, h3, h8, hb, hkl, hlt', hlt]
     exact out _ _ tok (by rw [he.2]; exact (setF_ext _ hx0 hfl).trans hext) (by simp [hlen]) (by simp [slot_ne, h7, he.1]) (by simp [slot_eq, slot_ne, hlen, hlt])
set_option maxRecDepth 100000 in
theorem all_param_ev (N : Nat) (g : RF) (hg : lenR g = 10) {t : Tr} {fid : Nat} {σ : Sto} (hf : fineL t.kids) (hn : ∀ u ∈ t.kids, 8 * sizeT u + rank g ≤ N) (hc : σ[fid]? = some cleanO) (hl : t.kids.length ≤ 1000000) :
    CallW Tryz.prog (EN N) 98 [nodeA t fid, .fn (.func (fidOf g)) [] []] σ fun r σ' => ∃ tok, r = .ret (.sl (allS (rd N g) t).1 tok) ∧ Ext (setF σ fid (allS (rd N g) t).2) σ' := by
 refine CallW.start (fn := Tryz.f98) (M := []) rfl rfl rfl rfl (by simp) fun tm hlen hs => ?_
 have h0 := hs 0 _ rfl
 have h1 := hs 1 _ rfl
 clear hs
 rw [nodeA_eq] at h0
 simp at hlen
 refine CW.hide fun R0 hR0 => ?_
 have hfl := lt_of_obj hc
 generalize hrs : allS (rd N g) t = rs at *
 have done : ∀ (tok : Tok) (tm : List AV) (σ' : Sto), Ext (setF σ fid rs.2) σ' → tm.length = 14 → slot tm 4 = .sl rs.1 tok → R0 .ret tm σ' := by
  intro tok tm σ' hx hlen h6
  refine hR0 _ _ _ ⟨.sl rs.1 tok, ?_, tok, rfl, hx⟩
  simp [resultsA, omap, res_tmp, slot_eq, slot_ne, hlen, h6]
 clear hR0
 refine CW.seqK fun K hK => CW.region ?_
 simp (maxDischargeDepth := 16) [symB, List.length_set, andThen, hlen, h0]
 refine hK _ _ ?_; clear hK K
 refine CW.reset2 (fun tm σ1 => tm.length = 14 ∧ slot tm 1 = .fn (.func (fidOf g)) [] [] ∧ slot tm 2 = .ptr σ.length 0 ∧ σ1 = σ ++ [nodeO t fid]) ⟨by simp [hlen], by simp [slot_ne, h1], by simp [slot_eq, slot_ne, hlen], rfl⟩ ?_
 clear h0 h1 hlen tm
 rintro tm σ0 ⟨hlen, h1, h2, hσ0⟩
 have hb0 : σ0[σ.length]? = some (.cells [.lit (.string (bs t.word)), .sl (rowsOf t.kids) .no, .lit (.bool t.row), .lit (.int .i64 t.at_), .ptr fid 0] 57) := by rw [hσ0]; exact get_new _ _ _
 have hx0 : Ext σ σ0 := by rw [hσ0]; exact ⟨_, rfl⟩
 have hc0 : σ0[fid]? = some cleanO := by rw [hσ0]; exact get_app hc
 clear hσ0
 refine CW.seqK fun K hK => ?_
 refine CW.seqK fun K2 hK2 => CW.region ?_
 cases hrow : t.row with
 | false =>
  have hrs2 : rs = ([], some t.at_) := by rw [← hrs]; unfold allS; rw [hrow]; rfl
  rw [hrow] at hb0
  simp (maxDischargeDepth := 16) [symB, List.length_set, andThen, hlen, h2, hb0]
  refine hK2 _ _ ?_
  refine CW.cond (t := true) (by simp [evx_tmp, slot_eq, slot_ne, hlen]) ?_
  refine CW.seqK fun K3 hK3 => CW.region ?_
  simp (maxDischargeDepth := 16) [symB, List.length_set, andThen, hlen, h2, hb0]
  rw [← hrow, ← nodeA_eq]
  refine (fault_ev N t fid σ0 hc0).mono ?_
  rintro r σ2 ⟨rfl, hx2⟩
  simp (maxDischargeDepth := 16) [symB, List.length_set, andThen, hlen, retK]
  refine hK3 _ _ ?_
  refine CW.seqK fun K4 hK4 => CW.region ?_
  simp (maxDischargeDepth := 16) [symB, List.length_set, andThen, hlen]
  refine hK4 _ _ ?_
  refine CW.ret ?_
  simp only [andThen]
  exact done .full _ _ (by rw [hrs2]; exact (setF_ext _ hx0 hfl).trans hx2) (by simp [hlen]) (by simp [slot_eq, slot_ne, hlen, hrs2])
 | true =>
  have hrs2 : rs = restS (rd N g) (t.kids.drop 0) := by rw [← hrs]; unfold allS; rw [hrow]; rfl
  rw [hrow] at hb0
  simp (maxDischargeDepth := 16) [symB, List.length_set, andThen, hlen, h2, hb0]
  refine hK2 _ _ ?_
  refine CW.cond (t := false) (by simp [evx_tmp, slot_eq, slot_ne, hlen]) ?_
  refine CW.skip ?_
  simp only [andThen]
  refine hK _ _ ?_
  refine CW.seqK fun K3 hK3 => CW.region ?_
  simp (maxDischargeDepth := 16) [symB, List.length_set, andThen, hlen, h1, h2, hb0]
  rw [← hrow, ← nodeA_eq]
  refine (rest_param_ev N g hg (src := 0) hf hn hc0 hl (by omega)).mono ?_
  rintro r σ2 ⟨tok, rfl, hx2⟩
  rw [← hrs2] at hx2 ⊢
  simp (maxDischargeDepth := 16) [symB, List.length_set, andThen, hlen, retK]
  refine hK3 _ _ ?_
  refine CW.ret ?_
  exact done tok _ _ ((setF_ext _ hx0 hfl).trans hx2) (by simp [hlen]) (by simp [slot_eq, slot_ne, hlen])
set_option maxRecDepth 100000 in
set_option maxHeartbeats 1000000 in
theorem rest_arm_ev (N : Nat) (g : RF) (hg : lenR g = 3) {t : Tr} {fid src : Nat} {σ : Sto} (hf : fineL t.kids) (hn : ∀ u ∈ t.kids, 8 * sizeT u + rank g ≤ N) (hc : σ[fid]? = some cleanO) (hl : t.kids.length ≤ 1000000) (hfrom : src ≤ t.kids.length) :
    CallW Tryz.prog (EN N) 138 [nodeA t fid, .lit (.int .i64 src), .fn (.func (fidOf g)) [] []] σ fun r σ' => ∃ tok, r = .ret (.sl (restS (rd N g) (t.kids.drop src)).1 tok) ∧ Ext (setF σ fid (restS (rd N g) (t.kids.drop src)).2) σ' := by
 refine CallW.start (fn := Tryz.f138) (M := []) rfl rfl rfl rfl (by simp) fun tm hlen hs => ?_
 have h0 := hs 0 _ rfl
 have h1 := hs 1 _ rfl
 have h2 := hs 2 _ rfl
 clear hs
 rw [nodeA_eq] at h0
 simp at hlen
 refine CW.hide fun R0 hR0 => ?_
 have hfl := lt_of_obj hc
 generalize hrs : restS (rd N g) (t.kids.drop src) = rs at *
 have done : ∀ (tok : Tok) (tm : List AV) (σ' : Sto), Ext (setF σ fid rs.2) σ' → tm.length = 35 → slot tm 6 = .sl rs.1 tok → R0 .ret tm σ' := by
  intro tok tm σ' hx hlen h6
  refine hR0 _ _ _ ⟨.sl rs.1 tok, ?_, tok, rfl, hx⟩
  simp [resultsA, omap, res_tmp, slot_eq, slot_ne, hlen, h6]
 clear hR0
 refine CW.seqK fun K hK => CW.region ?_
 simp (maxDischargeDepth := 16) [symB, List.length_set, andThen, hlen, h0]
 refine hK _ _ ?_; clear hK K
 refine CW.seqK fun K hK => CW.region ?_
 simp (maxDischargeDepth := 16) [symB, List.length_set, andThen, hlen]
 refine hK _ _ ?_; clear hK K
 refine CW.seqK fun K hK => ?_
 refine CW.seqK fun K hK => CW.region ?_
 simp (maxDischargeDepth := 16) [symB, List.length_set, andThen, hlen, h1]
 refine hK _ _ ?_; clear hK K
 refine CW.reset2 (fun tm σ1 => tm.length = 35 ∧ slot tm 2 = .fn (.func (fidOf g)) [] [] ∧ slot tm 3 = .ptr σ.length 0 ∧ slot tm 7 = .sl [] .full ∧ slot tm 8 = .lit (.int .i64 src) ∧ σ1 = σ ++ [nodeO t fid]) ⟨by simp [hlen], by simp [slot_ne, h2], by simp [slot_eq, slot_ne, hlen], by simp [slot_eq, slot_ne, hlen], by simp [slot_eq, slot_ne, hlen], rfl⟩ ?_
 clear h0 h1 h2 hlen tm
 rintro tm σ0 ⟨hlen, h2, h3, h7, h8, hσ0⟩
 have hb0 : σ0[σ.length]? = some (.cells [.lit (.string (bs t.word)), .sl (rowsOf t.kids) .no, .lit (.bool t.row), .lit (.int .i64 t.at_), .ptr fid 0] 57) := by rw [hσ0]; exact get_new _ _ _
 have hx0 : Ext σ σ0 := by rw [hσ0]; exact ⟨_, rfl⟩
 have hc0 : σ0[fid]? = some cleanO := by rw [hσ0]; exact get_app hc
 clear hσ0
 have hkl : (rowsOf t.kids).length = t.kids.length := rowsOf_length _
 refine CW.block ?_
 refine CW.hide fun R hR => ?_
 refine CW.loopI (fun r tm σ1 => tm.length = 35 ∧ slot tm 2 = .fn (.func (fidOf g)) [] [] ∧ slot tm 3 = .ptr σ.length 0 ∧ σ1[σ.length]? = some (.cells [.lit (.string (bs t.word)), .sl (rowsOf t.kids) .no, .lit (.bool t.row), .lit (.int .i64 t.at_), .ptr fid 0] 57) ∧ ∃ (i : Nat) (rows : List (List AV)) (tok : Tok), slot tm 7 = .sl rows tok ∧ slot tm 8 = .lit (.int .i64 i) ∧ i ≤ t.kids.length ∧
     ((r = t.kids.length - i + 1 ∧ rows.length ≤ i ∧ (∀ e ∈ rows, e.length = 3) ∧ rs = (rows ++ (restS (rd N g) (t.kids.drop i)).1, (restS (rd N g) (t.kids.drop i)).2) ∧ TokAt σ0 σ1 (rows.length * 3) 249 tok ∧ Ext σ0 σ1 ∧ σ1[fid]? = some cleanO) ∨
      (r = 0 ∧ ∃ p, rs = (rows, some p) ∧ σ1[fid]? = some (badO p) ∧ Ext (setF σ0 fid (some p)) σ1))) ?_ _ _ _
  ⟨hlen, h2, h3, hb0, src, [], .full, h7, h8, hfrom, .inl ⟨rfl, by simp, by simp, by rw [hrs]; rfl, .inl ⟨rfl, by simp⟩, Ext.refl _, hc0⟩⟩
 clear h2 h3 h7 h8 hlen tm
 rintro r tm σ1 ⟨hlen, h2, h3, hb, i, rows, tok, h7, h8, hi, hAB⟩
 refine CW.hide fun R2 hR2 => ?_
 refine CW.seqK fun K3 hK3 => ?_
 refine CW.seqK fun K4 hK4 => CW.region ?_
 have fin : ∀ (tm : List AV) (σ1 : Sto) (tok : Tok), Ext (setF σ fid rs.2) σ1 → tm.length = 35 → slot tm 7 = .sl rs.1 tok → K tm σ1 := by
  intro tm σ1 tok hx hlen h7
  refine hK _ _ ?_
  refine CW.seqK fun K hK => CW.region ?_
  simp (maxDischargeDepth := 16) [symB, List.length_set, andThen, hlen, h7]
  refine hK _ _ ?_; clear hK K
  exact CW.ret (done tok _ _ hx (by simp [hlen]) (by simp [slot_eq, slot_ne, hlen]))
 clear done hK
 have out : ∀ (tm : List AV) (σ1 : Sto) (tok : Tok), Ext (setF σ fid rs.2) σ1 → tm.length = 35 → slot tm 7 = .sl rs.1 tok → slot tm 23 = .lit (.bool false) → K4 tm σ1 := by
  intro tm σ1 tok hx hlen h7 h23
  refine hK4 _ _ ?_
  refine CW.cond (t := false) (by simp [evx_tmp, slot_eq, slot_ne, hlen, h23]) ?_
  refine CW.exit ?_
  simp only [andThen]
  refine hR2 _ _ _ (hR _ _ _ ?_)
  simp only [outOf, if_true, andThen]
  exact fin _ _ tok hx hlen h7
 clear fin
 rcases hAB with ⟨rfl, hri, hrk, hrs2, htok, hext, hcl⟩ | ⟨rfl, p, hrs2, hbad, hext⟩
 · by_cases hlt : i < t.kids.length
   · have hlt' : (i : Int) < t.kids.length := by omega
     have hcl2 := hcl
     unfold cleanO boolA at hcl2
     simp (maxDischargeDepth := 16) [symB, List.length_set, andThen, hlen, h3, h8, hb, hkl, hlt', hlt, hcl2]
     refine hK4 _ _ ?_
     refine CW.cond (t := true) (by simp [evx_tmp, slot_eq, slot_ne, hlen, hlt]) ?_
     refine CW.skip ?_
     simp only [andThen]
     refine hK3 _ _ ?_; clear hK3 K3 hK4 K4 out
     refine CW.seqK fun K5 hK5 => CW.block (CW.region ?_)
     have hget : t.kids[i]? = some t.kids[i] := List.getElem?_eq_getElem hlt
     have hmem := List.getElem_mem hlt
     have hdrop : t.kids.drop i = t.kids[i] :: t.kids.drop (i + 1) := List.drop_eq_getElem_cons hlt
     generalize t.kids[i] = u at *
     simp (maxDischargeDepth := 16) [symB, List.length_set, andThen, outOf, hlen, h2, h3, h7, h8, hb]
     rw [← nodeA_eq]
     refine (kid_ev N hget hl).mono ?_
     rintro r2 σ2 ⟨rfl, hx2⟩
     refine Classical.byContradiction fun hno => ?_
     have hrk2 : rank g ≤ N := by have := hn u hmem; omega
     have hvc := (valR_cells (t := u) hrk2).1
     have hvt := (valR_cells (t := u) hrk2).2
     have hvl := rd_len N g u hrk2
     have hok := rd_ok N g u
     rw [hg] at hvl
     rw [hdrop, restS_cons] at hrs2
     have htok2 := htok.ext hx2
     have hcl3 := hx2.get hcl
     have hb3 := hx2.get hb
     have hext2 := hext.trans hx2
     have hwk : IntKind.i64.wrap ((i : Int) + 1) = ((i + 1 : Nat) : Int) := wrap_succ (by omega)
     have hnf : σ.length ≠ fid := by omega
     have hfu := fineL_mem hf hmem
     have hnu := hn u hmem
     clear hx2
     cases hq : (rd N g u).2 with
     | none =>
      obtain ⟨t', σ5, acc, hext5, htok5, hap⟩ := append_at (P := Tryz.prog) (M := []) (σ0 := σ0) (σ := σ2) (es := rows) (tok := tok) (tk := .full) (fs := [(rd N g u).1]) (t := 123) Tryz.underlying123 szOf_249 bytesOf_249 zeroOf_249 rfl
       htok2 hext2 (head_len hrk) (by simp [hvl]) (by simp) (by simp; omega) (by simp; omega)
      rw [stripRows_ok hok] at hap
      simp only [hq] at hrs2
      refine hno ?_
      clear hno
      simp (maxDischargeDepth := 16) [symB, List.length_set, retK, andThen, outOf, hlen, h2, h3, h7, h8, hb3]
      refine rd_ev g hfu hnu hcl3 ?_
      rw [hq]
      simp only [setF]
      generalize (rd N g u).1 = v at *
      generalize valR g v = vv at *
      have htp := take_put hvl
      simp (maxDischargeDepth := 16) [symB, List.length_set, retK, andThen, outOf, hlen, h2, h3, h7, h8, hb3, hvc, hvt, hvl, htp, hap]
      refine hK5 _ _ ?_
      refine CW.region ?_
      simp (maxDischargeDepth := 16) [symB, List.length_set, andThen, hlen, h8, hwk]
      refine hR2 _ _ _ ⟨t.kids.length - (i + 1) + 1, by omega, by simp [hlen], by simp [slot_ne, h2], by simp [slot_ne, h3], hext5.get hb0, i + 1, rows ++ [v], t', by simp [slot_eq, slot_ne, hlen], by simp [slot_eq, hlen], hlt, .inl ⟨rfl, by simp; omega, ?_, ?_, by simpa using htok5, hext5, hext5.get hc0⟩⟩
      · intro e he
        rcases List.mem_append.1 he with he | he
        · exact hrk e he
        · rw [List.mem_singleton.1 he]; exact hvl
      · rw [hrs2]; simp
     | some p =>
      have htok3 := htok2.setF (lt_of_obj hc0) (some p)
      have hext3 := setF_ext (some p) hext2 (lt_of_obj hc0)
      obtain ⟨t', σ5, acc, hext5, htok5, hap⟩ := append_at (P := Tryz.prog) (M := []) (σ0 := setF σ0 fid (some p)) (σ := setF σ2 fid (some p)) (es := rows) (tok := tok) (tk := .full) (fs := [(rd N g u).1]) (t := 123) Tryz.underlying123 szOf_249 bytesOf_249 zeroOf_249 rfl
       htok3 hext3 (head_len hrk) (by simp [hvl]) (by simp) (by simp; omega) (by simp; omega)
      rw [stripRows_ok hok] at hap
      simp only [hq] at hrs2
      refine hno ?_
      clear hno
      simp (maxDischargeDepth := 16) [symB, List.length_set, retK, andThen, outOf, hlen, h2, h3, h7, h8, hb3]
      refine rd_ev g hfu hnu hcl3 ?_
      rw [hq]
      have hb6 := hext5.get ((setF_ne (some p) hnf).trans hb0)
      have hf6 : σ5[fid]? = some (badO p) := hext5.get (List.getElem?_set_self (lt_of_obj hc0))
      generalize setF σ2 fid (some p) = σ3 at *
      generalize (rd N g u).1 = v at *
      generalize valR g v = vv at *
      have htp := take_put hvl
      simp (maxDischargeDepth := 16) [symB, List.length_set, retK, andThen, outOf, hlen, h2, h3, h7, h8, hb3, hvc, hvt, hvl, htp, hap]
      refine hK5 _ _ ?_
      refine CW.region ?_
      simp (maxDischargeDepth := 16) [symB, List.length_set, andThen, hlen, h8, hwk]
      refine hR2 _ _ _ ⟨0, by omega, by simp [hlen], by simp [slot_ne, h2], by simp [slot_ne, h3], hb6, i + 1, rows ++ [v], t', by simp [slot_eq, slot_ne, hlen], by simp [slot_eq, hlen], hlt, .inr ⟨rfl, p, hrs2, hf6, hext5⟩⟩
   · have hlt' : ¬ (i : Int) < t.kids.length := by omega
     simp (maxDischargeDepth := 16) [symB, List.length_set, andThen, hlen, h3, h8, hb, hkl, hlt', hlt]
     rw [List.drop_of_length_le (by omega)] at hrs2
     simp only [restS, List.append_nil] at hrs2
     subst hrs2
     exact out _ _ tok (hx0.trans hext) (by simp [hlen]) (by simp [slot_ne, h7]) (by simp [slot_eq, slot_ne, hlen, hlt])
 · unfold badO boolA at hbad
   have he : rs.1 = rows ∧ rs.2 = some p := by rw [hrs2]; exact ⟨rfl, rfl⟩
   by_cases hlt : i < t.kids.length
   · have hlt' : (i : Int) < t.kids.length := by omega
     simp (maxDischargeDepth := 16) [symB, List.length_set, andThen, hlen, h3, h8, hb, hkl, hlt', hlt, hbad]
     exact out _ _ tok (by rw [he.2]; exact (setF_ext _ hx0 hfl).trans hext) (by simp [hlen]) (by simp [slot_ne, h7, he.1]) (by simp [slot_eq, slot_ne, hlen, hlt])
   · have hlt' : ¬ (i : Int) < t.kids.length := by omega
     simp (maxDischargeDepth := 16) [symB, List.length_set, andThen, hlen, h3, h8, hb, hkl, hlt', hlt]
     exact out _ _ tok (by rw [he.2]; exact (setF_ext _ hx0 hfl).trans hext) (by simp [hlen]) (by simp [slot_ne, h7, he.1]) (by simp [slot_eq, slot_ne, hlen, hlt])
set_option maxRecDepth 100000 in
set_option maxHeartbeats 1000000 in
theorem rest_atom_ev (N : Nat) (g : RF) (hg : lenR g = 5) {t : Tr} {fid src : Nat} {σ : Sto} (hf : fineL t.kids) (hn : ∀ u ∈ t.kids, 8 * sizeT u + rank g ≤ N) (hc : σ[fid]? = some cleanO) (hl : t.kids.length ≤ 1000000) (hfrom : src ≤ t.kids.length) :
    CallW Tryz.prog (EN N) 177 [nodeA t fid, .lit (.int .i64 src), .fn (.func (fidOf g)) [] []] σ fun r σ' => ∃ tok, r = .ret (.sl (restS (rd N g) (t.kids.drop src)).1 tok) ∧ Ext (setF σ fid (restS (rd N g) (t.kids.drop src)).2) σ' := by
 refine CallW.start (fn := Tryz.f177) (M := []) rfl rfl rfl rfl (by simp) fun tm hlen hs => ?_
 have h0 := hs 0 _ rfl
 have h1 := hs 1 _ rfl
 have h2 := hs 2 _ rfl
 clear hs
 rw [nodeA_eq] at h0
 simp at hlen
 refine CW.hide fun R0 hR0 => ?_
 have hfl := lt_of_obj hc
 generalize hrs : restS (rd N g) (t.kids.drop src) = rs at *
 have done : ∀ (tok : Tok) (tm : List AV) (σ' : Sto), Ext (setF σ fid rs.2) σ' → tm.length = 35 → slot tm 6 = .sl rs.1 tok → R0 .ret tm σ' := by
  intro tok tm σ' hx hlen h6
  refine hR0 _ _ _ ⟨.sl rs.1 tok, ?_, tok, rfl, hx⟩
  simp [resultsA, omap, res_tmp, slot_eq, slot_ne, hlen, h6]
 clear hR0
 refine CW.seqK fun K hK => CW.region ?_
 simp (maxDischargeDepth := 16) [symB, List.length_set, andThen, hlen, h0]
 refine hK _ _ ?_; clear hK K
 refine CW.seqK fun K hK => CW.region ?_
 simp (maxDischargeDepth := 16) [symB, List.length_set, andThen, hlen]
 refine hK _ _ ?_; clear hK K
 refine CW.seqK fun K hK => ?_
 refine CW.seqK fun K hK => CW.region ?_
 simp (maxDischargeDepth := 16) [symB, List.length_set, andThen, hlen, h1]
 refine hK _ _ ?_; clear hK K
 refine CW.reset2 (fun tm σ1 => tm.length = 35 ∧ slot tm 2 = .fn (.func (fidOf g)) [] [] ∧ slot tm 3 = .ptr σ.length 0 ∧ slot tm 7 = .sl [] .full ∧ slot tm 8 = .lit (.int .i64 src) ∧ σ1 = σ ++ [nodeO t fid]) ⟨by simp [hlen], by simp [slot_ne, h2], by simp [slot_eq, slot_ne, hlen], by simp [slot_eq, slot_ne, hlen], by simp [slot_eq, slot_ne, hlen], rfl⟩ ?_
 clear h0 h1 h2 hlen tm
 rintro tm σ0 ⟨hlen, h2, h3, h7, h8, hσ0⟩
 have hb0 : σ0[σ.length]? = some (.cells [.lit (.string (bs t.word)), .sl (rowsOf t.kids) .no, .lit (.bool t.row), .lit (.int .i64 t.at_), .ptr fid 0] 57) := by rw [hσ0]; exact get_new _ _ _
 have hx0 : Ext σ σ0 := by rw [hσ0]; exact ⟨_, rfl⟩
 have hc0 : σ0[fid]? = some cleanO := by rw [hσ0]; exact get_app hc
 clear hσ0
 have hkl : (rowsOf t.kids).length = t.kids.length := rowsOf_length _
 refine CW.block ?_
 refine CW.hide fun R hR => ?_
 refine CW.loopI (fun r tm σ1 => tm.length = 35 ∧ slot tm 2 = .fn (.func (fidOf g)) [] [] ∧ slot tm 3 = .ptr σ.length 0 ∧ σ1[σ.length]? = some (.cells [.lit (.string (bs t.word)), .sl (rowsOf t.kids) .no, .lit (.bool t.row), .lit (.int .i64 t.at_), .ptr fid 0] 57) ∧ ∃ (i : Nat) (rows : List (List AV)) (tok : Tok), slot tm 7 = .sl rows tok ∧ slot tm 8 = .lit (.int .i64 i) ∧ i ≤ t.kids.length ∧
     ((r = t.kids.length - i + 1 ∧ rows.length ≤ i ∧ (∀ e ∈ rows, e.length = 5) ∧ rs = (rows ++ (restS (rd N g) (t.kids.drop i)).1, (restS (rd N g) (t.kids.drop i)).2) ∧ TokAt σ0 σ1 (rows.length * 5) 122 tok ∧ Ext σ0 σ1 ∧ σ1[fid]? = some cleanO) ∨
      (r = 0 ∧ ∃ p, rs = (rows, some p) ∧ σ1[fid]? = some (badO p) ∧ Ext (setF σ0 fid (some p)) σ1))) ?_ _ _ _
  ⟨hlen, h2, h3, hb0, src, [], .full, h7, h8, hfrom, .inl ⟨rfl, by simp, by simp, by rw [hrs]; rfl, .inl ⟨rfl, by simp⟩, Ext.refl _, hc0⟩⟩
 clear h2 h3 h7 h8 hlen tm
 rintro r tm σ1 ⟨hlen, h2, h3, hb, i, rows, tok, h7, h8, hi, hAB⟩
 refine CW.hide fun R2 hR2 => ?_
 refine CW.seqK fun K3 hK3 => ?_
 refine CW.seqK fun K4 hK4 => CW.region ?_
 have fin : ∀ (tm : List AV) (σ1 : Sto) (tok : Tok), Ext (setF σ fid rs.2) σ1 → tm.length = 35 → slot tm 7 = .sl rs.1 tok → K tm σ1 := by
  intro tm σ1 tok hx hlen h7
  refine hK _ _ ?_
  refine CW.seqK fun K hK => CW.region ?_
  simp (maxDischargeDepth := 16) [symB, List.length_set, andThen, hlen, h7]
  refine hK _ _ ?_; clear hK K
  exact CW.ret (done tok _ _ hx (by simp [hlen]) (by simp [slot_eq, slot_ne, hlen]))
 clear done hK
 have out : ∀ (tm : List AV) (σ1 : Sto) (tok : Tok), Ext (setF σ fid rs.2) σ1 → tm.length = 35 → slot tm 7 = .sl rs.1 tok → slot tm 23 = .lit (.bool false) → K4 tm σ1 := by
  intro tm σ1 tok hx hlen h7 h23
  refine hK4 _ _ ?_
  refine CW.cond (t := false) (by simp [evx_tmp, slot_eq, slot_ne, hlen, h23]) ?_
  refine CW.exit ?_
  simp only [andThen]
  refine hR2 _ _ _ (hR _ _ _ ?_)
  simp only [outOf, if_true, andThen]
  exact fin _ _ tok hx hlen h7
 clear fin
 rcases hAB with ⟨rfl, hri, hrk, hrs2, htok, hext, hcl⟩ | ⟨rfl, p, hrs2, hbad, hext⟩
 · by_cases hlt : i < t.kids.length
   · have hlt' : (i : Int) < t.kids.length := by omega
     have hcl2 := hcl
     unfold cleanO boolA at hcl2
     simp (maxDischargeDepth := 16) [symB, List.length_set, andThen, hlen, h3, h8, hb, hkl, hlt', hlt, hcl2]
     refine hK4 _ _ ?_
     refine CW.cond (t := true) (by simp [evx_tmp, slot_eq, slot_ne, hlen, hlt]) ?_
     refine CW.skip ?_
     simp only [andThen]
     refine hK3 _ _ ?_; clear hK3 K3 hK4 K4 out
     refine CW.seqK fun K5 hK5 => CW.block (CW.region ?_)
     have hget : t.kids[i]? = some t.kids[i] := List.getElem?_eq_getElem hlt
     have hmem := List.getElem_mem hlt
     have hdrop : t.kids.drop i = t.kids[i] :: t.kids.drop (i + 1) := List.drop_eq_getElem_cons hlt
     generalize t.kids[i] = u at *
     simp (maxDischargeDepth := 16) [symB, List.length_set, andThen, outOf, hlen, h2, h3, h7, h8, hb]
     rw [← nodeA_eq]
     refine (kid_ev N hget hl).mono ?_
     rintro r2 σ2 ⟨rfl, hx2⟩
     refine Classical.byContradiction fun hno => ?_
     have hrk2 : rank g ≤ N := by have := hn u hmem; omega
     have hvc := (valR_cells (t := u) hrk2).1
     have hvt := (valR_cells (t := u) hrk2).2
     have hvl := rd_len N g u hrk2
     have hok := rd_ok N g u
     rw [hg] at hvl
     rw [hdrop, restS_cons] at hrs2
     have htok2 := htok.ext hx2
     have hcl3 := hx2.get hcl
     have hb3 := hx2.get hb
     have hext2 := hext.trans hx2
     have hwk : IntKind.i64.wrap ((i : Int) + 1) = ((i + 1 : Nat) : Int) := wrap_succ (by omega)
     have hnf : σ.length ≠ fid := by omega
     have hfu := fineL_mem hf hmem
     have hnu := hn u hmem
     clear hx2
     cases hq : (rd N g u).2 with
     | none =>
      obtain ⟨t', σ5, acc, hext5, htok5, hap⟩ := append_at (P := Tryz.prog) (M := []) (σ0 := σ0) (σ := σ2) (es := rows) (tok := tok) (tk := .full) (fs := [(rd N g u).1]) (t := 240) Tryz.underlying240 szOf_122 bytesOf_122 zeroOf_122 rfl
       htok2 hext2 (head_len hrk) (by simp [hvl]) (by simp) (by simp; omega) (by simp; omega)
      rw [stripRows_ok hok] at hap
      simp only [hq] at hrs2
      refine hno ?_
      clear hno
      simp (maxDischargeDepth := 16) [symB, List.length_set, retK, andThen, outOf, hlen, h2, h3, h7, h8, hb3]
      refine rd_ev g hfu hnu hcl3 ?_
      rw [hq]
      simp only [setF]
      generalize (rd N g u).1 = v at *
      generalize valR g v = vv at *
      have htp := take_put hvl
      simp (maxDischargeDepth := 16) [symB, List.length_set, retK, andThen, outOf, hlen, h2, h3, h7, h8, hb3, hvc, hvt, hvl, htp, hap]
      refine hK5 _ _ ?_
      refine CW.region ?_
      simp (maxDischargeDepth := 16) [symB, List.length_set, andThen, hlen, h8, hwk]
      refine hR2 _ _ _ ⟨t.kids.length - (i + 1) + 1, by omega, by simp [hlen], by simp [slot_ne, h2], by simp [slot_ne, h3], hext5.get hb0, i + 1, rows ++ [v], t', by simp [slot_eq, slot_ne, hlen], by simp [slot_eq, hlen], hlt, .inl ⟨rfl, by simp; omega, ?_, ?_, by simpa using htok5, hext5, hext5.get hc0⟩⟩
      · intro e he
        rcases List.mem_append.1 he with he | he
        · exact hrk e he
        · rw [List.mem_singleton.1 he]; exact hvl
      · rw [hrs2]; simp
     | some p =>
      have htok3 := htok2.setF (lt_of_obj hc0) (some p)
      have hext3 := setF_ext (some p) hext2 (lt_of_obj hc0)
      obtain ⟨t', σ5, acc, hext5, htok5, hap⟩ := append_at (P := Tryz.prog) (M := []) (σ0 := setF σ0 fid (some p)) (σ := setF σ2 fid (some p)) (es := rows) (tok := tok) (tk := .full) (fs := [(rd N g u).1]) (t := 240) Tryz.underlying240 szOf_122 bytesOf_122 zeroOf_122 rfl
       htok3 hext3 (head_len hrk) (by simp [hvl]) (by simp) (by simp; omega) (by simp; omega)
      rw [stripRows_ok hok] at hap
      simp only [hq] at hrs2
      refine hno ?_
      clear hno
      simp (maxDischargeDepth := 16) [symB, List.length_set, retK, andThen, outOf, hlen, h2, h3, h7, h8, hb3]
      refine rd_ev g hfu hnu hcl3 ?_
      rw [hq]
      have hb6 := hext5.get ((setF_ne (some p) hnf).trans hb0)
      have hf6 : σ5[fid]? = some (badO p) := hext5.get (List.getElem?_set_self (lt_of_obj hc0))
      generalize setF σ2 fid (some p) = σ3 at *
      generalize (rd N g u).1 = v at *
      generalize valR g v = vv at *
      have htp := take_put hvl
      simp (maxDischargeDepth := 16) [symB, List.length_set, retK, andThen, outOf, hlen, h2, h3, h7, h8, hb3, hvc, hvt, hvl, htp, hap]
      refine hK5 _ _ ?_
      refine CW.region ?_
      simp (maxDischargeDepth := 16) [symB, List.length_set, andThen, hlen, h8, hwk]
      refine hR2 _ _ _ ⟨0, by omega, by simp [hlen], by simp [slot_ne, h2], by simp [slot_ne, h3], hb6, i + 1, rows ++ [v], t', by simp [slot_eq, slot_ne, hlen], by simp [slot_eq, hlen], hlt, .inr ⟨rfl, p, hrs2, hf6, hext5⟩⟩
   · have hlt' : ¬ (i : Int) < t.kids.length := by omega
     simp (maxDischargeDepth := 16) [symB, List.length_set, andThen, hlen, h3, h8, hb, hkl, hlt', hlt]
     rw [List.drop_of_length_le (by omega)] at hrs2
     simp only [restS, List.append_nil] at hrs2
     subst hrs2
     exact out _ _ tok (hx0.trans hext) (by simp [hlen]) (by simp [slot_ne, h7]) (by simp [slot_eq, slot_ne, hlen, hlt])
 · unfold badO boolA at hbad
   have he : rs.1 = rows ∧ rs.2 = some p := by rw [hrs2]; exact ⟨rfl, rfl⟩
   by_cases hlt : i < t.kids.length
   · have hlt' : (i : Int) < t.kids.length := by omega
     simp (maxDischargeDepth := 16) [symB, List.length_set, andThen, hlen, h3, h8, hb, hkl, hlt', hlt, hbad]
     exact out _ _ tok (by rw [he.2]; exact (setF_ext _ hx0 hfl).trans hext) (by simp [hlen]) (by simp [slot_ne, h7, he.1]) (by simp [slot_eq, slot_ne, hlen, hlt])
   · have hlt' : ¬ (i : Int) < t.kids.length := by omega
     simp (maxDischargeDepth := 16) [symB, List.length_set, andThen, hlen, h3, h8, hb, hkl, hlt', hlt]
     exact out _ _ tok (by rw [he.2]; exact (setF_ext _ hx0 hfl).trans hext) (by simp [hlen]) (by simp [slot_ne, h7, he.1]) (by simp [slot_eq, slot_ne, hlen, hlt])
end Go.Proofs.YtkkblmdgedmdfaaGreatDoor
