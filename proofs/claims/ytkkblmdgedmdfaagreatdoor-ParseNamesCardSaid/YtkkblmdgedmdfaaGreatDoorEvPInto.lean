/-
 EV: parse: into[T] and the closures it makes, for each T (printed by gen_into.py).
-/
import Derived.Test.YtkkblmdgedmdfaaGreatDoorEvPBaseM
namespace Go.Proofs.YtkkblmdgedmdfaaGreatDoor
set_option linter.unusedSimpArgs false
set_option linter.unusedVariables false
open Go.RowKit
theorem setF_ne {σ : Sto} {fid id : Nat} (o : Option Int) (h : id ≠ fid) : (setF σ fid o)[id]? = σ[id]? := by
 cases o with
 | none => rfl
 | some p => exact List.getElem?_set_ne (Ne.symm h)
theorem setF_len (σ : Sto) (fid : Nat) (o : Option Int) : (setF σ fid o).length = σ.length := by cases o <;> simp [setF]
theorem setF_ext {σ σ' : Sto} {fid : Nat} (o : Option Int) (h : Ext σ σ') (hl : fid < σ.length) : Ext (setF σ fid o) (setF σ' fid o) := by
 cases o with
 | none => exact h
 | some p => exact Ext.setL h hl _
theorem ne_of_get {σ : Sto} {a b : Nat} {x y : AObj} (ha : σ[a]? = some x) (hb : σ[b]? = some y) (h : x ≠ y) : a ≠ b := fun e => by subst e; rw [ha] at hb; exact h (Option.some.inj hb)
theorem valR_cells {N : Nat} {g : RF} {t : Tr} (h : rank g ≤ N) : (valR g (rd N g t).1).cells = (rd N g t).1 ∧ (valR g (rd N g t).1).notTup = true := by
 have hl := rd_len N g t h
 have ho := rd_ok N g t
 unfold valR
 split
 · rename_i h1
   generalize (rd N g t).1 = l at *
   have h2 : l.length = 1 := by rw [hl]; cases g <;> simp [oneR] at h1 <;> rfl
   match l, h2, ho with
   | [c], _, ho =>
    have := (ho c (by simp)).1
    cases c <;> simp [AV.one] at this <;> exact ⟨rfl, rfl⟩
 · exact ⟨rfl, rfl⟩
set_option maxRecDepth 100000 in
theorem into_name_ev (N : Nat) (tg off f : Nat) (σ : Sto) : CallW Tryz.prog (EN N) 44 [.ptr tg off, .fn (.func f) [] []] σ fun r σ' => ∃ T1 T2, r = .ret (.fn (.func 92) [] [.ptr (σ.length + 1) 0, .ptr σ.length 0]) ∧ σ' = σ ++ [.cells [.ptr tg off] T1, .cells [.fn (.func f) [] []] T2] := by
 refine CallW.start (fn := Tryz.f44) (M := []) rfl rfl rfl rfl (by simp) fun tm hlen hs => ?_
 have h0 := hs 0 _ rfl
 have h1 := hs 1 _ rfl
 clear hs
 simp at hlen
 refine CW.hide fun R0 hR0 => ?_
 refine CW.seqK fun K hK => CW.region ?_
 simp (maxDischargeDepth := 16) [symB, List.length_set, andThen, hlen, h0, h1]
 refine hK _ _ ?_; clear hK K
 refine CW.seqK fun K hK => CW.region ?_
 simp (maxDischargeDepth := 16) [symB, List.length_set, andThen, hlen]
 refine hK _ _ ?_; clear hK K
 refine CW.ret (hR0 _ _ _ ⟨.fn (.func 92) [] [.ptr (σ.length + 1) 0, .ptr σ.length 0], ?_, _, _, rfl, rfl⟩)
 simp [resultsA, omap, res_tmp, slot_eq, slot_ne, hlen]
set_option maxRecDepth 100000 in
theorem into1_name_ev (N : Nat) {t : Tr} {fid : Nat} {σ : Sto} {a b tg off T1 T2 Tt : Nat} {cs : List AV} (hf : fineT t) (hn : 8 * sizeT t + rank .name ≤ N) (hc : σ[fid]? = some cleanO) (ha : σ[a]? = some (.cells [.fn (.func (fidOf .name)) [] []] T2)) (hb : σ[b]? = some (.cells [.ptr tg off] T1)) (ht : σ[tg]? = some (.cells cs Tt)) (hto : tg ≠ fid) (hfit : off + lenR .name ≤ cs.length) :
    CallW Tryz.prog (EN N) 92 [nodeA t fid, .ptr a 0, .ptr b 0] σ fun r σ' => r = .ret (.tup []) ∧ Ext ((setF σ fid (rd N .name t).2).set tg (.cells (putCells cs off (rd N .name t).1) Tt)) σ' := by
 refine CallW.start (fn := Tryz.f92) (M := []) rfl rfl rfl rfl (by simp) fun tm hlen hs => ?_
 have h0 := hs 0 _ rfl
 have h1 := hs 1 _ rfl
 have h2 := hs 2 _ rfl
 clear hs
 rw [nodeA_eq] at h0
 simp at hlen
 refine CW.hide fun R0 hR0 => ?_
 refine CW.seqK fun K hK => CW.region ?_
 simp (maxDischargeDepth := 16) [symB, List.length_set, andThen, hlen, h0]
 refine hK _ _ ?_; clear hK K
 refine CW.reset2 (fun tm σ1 => tm.length = 9 ∧ slot tm 1 = .ptr a 0 ∧ slot tm 2 = .ptr b 0 ∧ slot tm 3 = .ptr σ.length 0 ∧ σ1 = σ ++ [nodeO t fid]) ⟨by simp [hlen], by simp [slot_ne, h1], by simp [slot_ne, h2], by simp [slot_eq, slot_ne, hlen], rfl⟩ ?_
 clear h0 h1 h2 hlen tm
 rintro tm σ1 ⟨hlen, h1, h2, h3, rfl⟩
 have hbx : (σ ++ [nodeO t fid])[σ.length]? = some (.cells [.lit (.string (bs t.word)), .sl (rowsOf t.kids) .no, .lit (.bool t.row), .lit (.int .i64 t.at_), .ptr fid 0] 57) := get_new _ _ _
 have hne1 : b ≠ a := ne_of_get hb ha (by simp)
 have hne2 : b ≠ fid := ne_of_get hb hc (by simp [cleanO])
 have hne3 : a ≠ fid := ne_of_get ha hc (by simp [cleanO])
 have hl := lt_of_obj hc
 have hla := lt_of_obj ha
 have hlb := lt_of_obj hb
 have hlt := lt_of_obj ht
 have hx : Ext σ (σ ++ [nodeO t fid]) := ⟨_, rfl⟩
 have hc' : (σ ++ [nodeO t fid])[fid]? = some cleanO := get_app hc
 have ha' : (σ ++ [nodeO t fid])[a]? = some (.cells [.fn (.func (fidOf .name)) [] []] T2) := get_app ha
 have hb' : (σ ++ [nodeO t fid])[b]? = some (.cells [.ptr tg off] T1) := get_app hb
 have ht' : (σ ++ [nodeO t fid])[tg]? = some (.cells cs Tt) := get_app ht
 have hlx := lt_of_obj hbx
 generalize σ ++ [nodeO t fid] = σ1 at *
 refine CW.draw (by kernel_rfl) ?_
 simp (maxDischargeDepth := 16) [symB, List.length_set, andThen, hlen, h1, h2, h3, ha', hb', hbx]
 rw [← nodeA_eq]
 refine rd_ev .name hf hn hc' ?_
 have hrk : rank .name ≤ N := by omega
 obtain ⟨hvc, hvt⟩ := valR_cells (t := t) hrk
 have hvl := rd_len N .name t hrk
 have hex : ∀ q, Ext ((setF σ fid (rd N .name t).2).set tg q) ((setF σ1 fid (rd N .name t).2).set tg q) := fun q => Ext.setL (setF_ext _ hx hl) (by rw [setF_len]; exact hlt) _
 generalize (rd N .name t).1 = v at *
 generalize (rd N .name t).2 = o at *
 have hs1 : (setF σ1 fid o)[tg]? = some (.cells cs Tt) := by rw [setF_ne _ hto]; exact ht'
 have k1 : ∀ x, x ≠ fid → keptB σ1 (setF σ1 fid o) x = true := fun x hx => keptB_of (setF_ne _ hx)
 generalize setF σ1 fid o = σ2 at *
 generalize valR .name v = vv at *
 simp only [lenR] at hvl hfit
 simp (maxDischargeDepth := 16) [symB, List.length_set, retK, andThen, hlen, h1, h2, h3, hs1, hvc, hvt, hvl, hfit]
 refine ⟨drawOk_sim [b, a, σ.length] [.reads 0, .reads 1, .reads 2, .calls 3 fun _ => true, .pure, .any] (.cons (by simp; omega) (.cons (by simp; omega) (.cons (by simp) .nil))) ?_ (by kernel_rfl), ?_⟩
 · refine .cons (.reads 0 _ rfl) (.cons (.reads 1 _ rfl) (.cons (.reads 2 _ rfl) (.cons (.keeps fun x hx => ?_) (.cons .pure (.cons (.any _) .nil)))))
   have hxf : x ≠ fid ∧ x < σ1.length := by
    simp at hx
    rcases hx with rfl | rfl | rfl <;> refine ⟨by omega, by omega⟩
   exact ⟨by simp [k1 x hxf.1], hxf.2⟩
 · exact hR0 _ _ _ ⟨_, rfl, rfl, hex _⟩
set_option maxRecDepth 100000 in
theorem into1_many_ev (N : Nat) {t : Tr} {fid : Nat} {σ : Sto} {a b tg off T1 T2 Tt : Nat} {cs : List AV} (hf : fineT t) (hn : 8 * sizeT t + rank .many ≤ N) (hc : σ[fid]? = some cleanO) (ha : σ[a]? = some (.cells [.fn (.func (fidOf .many)) [] []] T2)) (hb : σ[b]? = some (.cells [.ptr tg off] T1)) (ht : σ[tg]? = some (.cells cs Tt)) (hto : tg ≠ fid) (hfit : off + lenR .many ≤ cs.length) :
    CallW Tryz.prog (EN N) 93 [nodeA t fid, .ptr a 0, .ptr b 0] σ fun r σ' => r = .ret (.tup []) ∧ Ext ((setF σ fid (rd N .many t).2).set tg (.cells (putCells cs off (rd N .many t).1) Tt)) σ' := by
 refine CallW.start (fn := Tryz.f93) (M := []) rfl rfl rfl rfl (by simp) fun tm hlen hs => ?_
 have h0 := hs 0 _ rfl
 have h1 := hs 1 _ rfl
 have h2 := hs 2 _ rfl
 clear hs
 rw [nodeA_eq] at h0
 simp at hlen
 refine CW.hide fun R0 hR0 => ?_
 refine CW.seqK fun K hK => CW.region ?_
 simp (maxDischargeDepth := 16) [symB, List.length_set, andThen, hlen, h0]
 refine hK _ _ ?_; clear hK K
 refine CW.reset2 (fun tm σ1 => tm.length = 9 ∧ slot tm 1 = .ptr a 0 ∧ slot tm 2 = .ptr b 0 ∧ slot tm 3 = .ptr σ.length 0 ∧ σ1 = σ ++ [nodeO t fid]) ⟨by simp [hlen], by simp [slot_ne, h1], by simp [slot_ne, h2], by simp [slot_eq, slot_ne, hlen], rfl⟩ ?_
 clear h0 h1 h2 hlen tm
 rintro tm σ1 ⟨hlen, h1, h2, h3, rfl⟩
 have hbx : (σ ++ [nodeO t fid])[σ.length]? = some (.cells [.lit (.string (bs t.word)), .sl (rowsOf t.kids) .no, .lit (.bool t.row), .lit (.int .i64 t.at_), .ptr fid 0] 57) := get_new _ _ _
 have hne1 : b ≠ a := ne_of_get hb ha (by simp)
 have hne2 : b ≠ fid := ne_of_get hb hc (by simp [cleanO])
 have hne3 : a ≠ fid := ne_of_get ha hc (by simp [cleanO])
 have hl := lt_of_obj hc
 have hla := lt_of_obj ha
 have hlb := lt_of_obj hb
 have hlt := lt_of_obj ht
 have hx : Ext σ (σ ++ [nodeO t fid]) := ⟨_, rfl⟩
 have hc' : (σ ++ [nodeO t fid])[fid]? = some cleanO := get_app hc
 have ha' : (σ ++ [nodeO t fid])[a]? = some (.cells [.fn (.func (fidOf .many)) [] []] T2) := get_app ha
 have hb' : (σ ++ [nodeO t fid])[b]? = some (.cells [.ptr tg off] T1) := get_app hb
 have ht' : (σ ++ [nodeO t fid])[tg]? = some (.cells cs Tt) := get_app ht
 have hlx := lt_of_obj hbx
 generalize σ ++ [nodeO t fid] = σ1 at *
 refine CW.draw (by kernel_rfl) ?_
 simp (maxDischargeDepth := 16) [symB, List.length_set, andThen, hlen, h1, h2, h3, ha', hb', hbx]
 rw [← nodeA_eq]
 refine rd_ev .many hf hn hc' ?_
 have hrk : rank .many ≤ N := by omega
 obtain ⟨hvc, hvt⟩ := valR_cells (t := t) hrk
 have hvl := rd_len N .many t hrk
 have hex : ∀ q, Ext ((setF σ fid (rd N .many t).2).set tg q) ((setF σ1 fid (rd N .many t).2).set tg q) := fun q => Ext.setL (setF_ext _ hx hl) (by rw [setF_len]; exact hlt) _
 generalize (rd N .many t).1 = v at *
 generalize (rd N .many t).2 = o at *
 have hs1 : (setF σ1 fid o)[tg]? = some (.cells cs Tt) := by rw [setF_ne _ hto]; exact ht'
 have k1 : ∀ x, x ≠ fid → keptB σ1 (setF σ1 fid o) x = true := fun x hx => keptB_of (setF_ne _ hx)
 generalize setF σ1 fid o = σ2 at *
 generalize valR .many v = vv at *
 simp only [lenR] at hvl hfit
 simp (maxDischargeDepth := 16) [symB, List.length_set, retK, andThen, hlen, h1, h2, h3, hs1, hvc, hvt, hvl, hfit]
 refine ⟨drawOk_sim [b, a, σ.length] [.reads 0, .reads 1, .reads 2, .calls 3 fun _ => true, .pure, .any] (.cons (by simp; omega) (.cons (by simp; omega) (.cons (by simp) .nil))) ?_ (by kernel_rfl), ?_⟩
 · refine .cons (.reads 0 _ rfl) (.cons (.reads 1 _ rfl) (.cons (.reads 2 _ rfl) (.cons (.keeps fun x hx => ?_) (.cons .pure (.cons (.any _) .nil)))))
   have hxf : x ≠ fid ∧ x < σ1.length := by
    simp at hx
    rcases hx with rfl | rfl | rfl <;> refine ⟨by omega, by omega⟩
   exact ⟨by simp [k1 x hxf.1], hxf.2⟩
 · exact hR0 _ _ _ ⟨_, rfl, rfl, hex _⟩
set_option maxRecDepth 100000 in
theorem into_term_ev (N : Nat) (tg off f : Nat) (σ : Sto) : CallW Tryz.prog (EN N) 47 [.ptr tg off, .fn (.func f) [] []] σ fun r σ' => ∃ T1 T2, r = .ret (.fn (.func 96) [] [.ptr (σ.length + 1) 0, .ptr σ.length 0]) ∧ σ' = σ ++ [.cells [.ptr tg off] T1, .cells [.fn (.func f) [] []] T2] := by
 refine CallW.start (fn := Tryz.f47) (M := []) rfl rfl rfl rfl (by simp) fun tm hlen hs => ?_
 have h0 := hs 0 _ rfl
 have h1 := hs 1 _ rfl
 clear hs
 simp at hlen
 refine CW.hide fun R0 hR0 => ?_
 refine CW.seqK fun K hK => CW.region ?_
 simp (maxDischargeDepth := 16) [symB, List.length_set, andThen, hlen, h0, h1]
 refine hK _ _ ?_; clear hK K
 refine CW.seqK fun K hK => CW.region ?_
 simp (maxDischargeDepth := 16) [symB, List.length_set, andThen, hlen]
 refine hK _ _ ?_; clear hK K
 refine CW.ret (hR0 _ _ _ ⟨.fn (.func 96) [] [.ptr (σ.length + 1) 0, .ptr σ.length 0], ?_, _, _, rfl, rfl⟩)
 simp [resultsA, omap, res_tmp, slot_eq, slot_ne, hlen]
set_option maxRecDepth 100000 in
theorem into1_term_ev (N : Nat) {t : Tr} {fid : Nat} {σ : Sto} {a b tg off T1 T2 Tt : Nat} {cs : List AV} (hf : fineT t) (hn : 8 * sizeT t + rank .term ≤ N) (hc : σ[fid]? = some cleanO) (ha : σ[a]? = some (.cells [.fn (.func (fidOf .term)) [] []] T2)) (hb : σ[b]? = some (.cells [.ptr tg off] T1)) (ht : σ[tg]? = some (.cells cs Tt)) (hto : tg ≠ fid) (hfit : off + lenR .term ≤ cs.length) :
    CallW Tryz.prog (EN N) 96 [nodeA t fid, .ptr a 0, .ptr b 0] σ fun r σ' => r = .ret (.tup []) ∧ Ext ((setF σ fid (rd N .term t).2).set tg (.cells (putCells cs off (rd N .term t).1) Tt)) σ' := by
 refine CallW.start (fn := Tryz.f96) (M := []) rfl rfl rfl rfl (by simp) fun tm hlen hs => ?_
 have h0 := hs 0 _ rfl
 have h1 := hs 1 _ rfl
 have h2 := hs 2 _ rfl
 clear hs
 rw [nodeA_eq] at h0
 simp at hlen
 refine CW.hide fun R0 hR0 => ?_
 refine CW.seqK fun K hK => CW.region ?_
 simp (maxDischargeDepth := 16) [symB, List.length_set, andThen, hlen, h0]
 refine hK _ _ ?_; clear hK K
 refine CW.reset2 (fun tm σ1 => tm.length = 9 ∧ slot tm 1 = .ptr a 0 ∧ slot tm 2 = .ptr b 0 ∧ slot tm 3 = .ptr σ.length 0 ∧ σ1 = σ ++ [nodeO t fid]) ⟨by simp [hlen], by simp [slot_ne, h1], by simp [slot_ne, h2], by simp [slot_eq, slot_ne, hlen], rfl⟩ ?_
 clear h0 h1 h2 hlen tm
 rintro tm σ1 ⟨hlen, h1, h2, h3, rfl⟩
 have hbx : (σ ++ [nodeO t fid])[σ.length]? = some (.cells [.lit (.string (bs t.word)), .sl (rowsOf t.kids) .no, .lit (.bool t.row), .lit (.int .i64 t.at_), .ptr fid 0] 57) := get_new _ _ _
 have hne1 : b ≠ a := ne_of_get hb ha (by simp)
 have hne2 : b ≠ fid := ne_of_get hb hc (by simp [cleanO])
 have hne3 : a ≠ fid := ne_of_get ha hc (by simp [cleanO])
 have hl := lt_of_obj hc
 have hla := lt_of_obj ha
 have hlb := lt_of_obj hb
 have hlt := lt_of_obj ht
 have hx : Ext σ (σ ++ [nodeO t fid]) := ⟨_, rfl⟩
 have hc' : (σ ++ [nodeO t fid])[fid]? = some cleanO := get_app hc
 have ha' : (σ ++ [nodeO t fid])[a]? = some (.cells [.fn (.func (fidOf .term)) [] []] T2) := get_app ha
 have hb' : (σ ++ [nodeO t fid])[b]? = some (.cells [.ptr tg off] T1) := get_app hb
 have ht' : (σ ++ [nodeO t fid])[tg]? = some (.cells cs Tt) := get_app ht
 have hlx := lt_of_obj hbx
 generalize σ ++ [nodeO t fid] = σ1 at *
 refine CW.draw (by kernel_rfl) ?_
 simp (maxDischargeDepth := 16) [symB, List.length_set, andThen, hlen, h1, h2, h3, ha', hb', hbx]
 rw [← nodeA_eq]
 refine rd_ev .term hf hn hc' ?_
 have hrk : rank .term ≤ N := by omega
 obtain ⟨hvc, hvt⟩ := valR_cells (t := t) hrk
 have hvl := rd_len N .term t hrk
 have hex : ∀ q, Ext ((setF σ fid (rd N .term t).2).set tg q) ((setF σ1 fid (rd N .term t).2).set tg q) := fun q => Ext.setL (setF_ext _ hx hl) (by rw [setF_len]; exact hlt) _
 generalize (rd N .term t).1 = v at *
 generalize (rd N .term t).2 = o at *
 have hs1 : (setF σ1 fid o)[tg]? = some (.cells cs Tt) := by rw [setF_ne _ hto]; exact ht'
 have k1 : ∀ x, x ≠ fid → keptB σ1 (setF σ1 fid o) x = true := fun x hx => keptB_of (setF_ne _ hx)
 generalize setF σ1 fid o = σ2 at *
 generalize valR .term v = vv at *
 simp only [lenR] at hvl hfit
 simp (maxDischargeDepth := 16) [symB, List.length_set, retK, andThen, hlen, h1, h2, h3, hs1, hvc, hvt, hvl, hfit]
 refine ⟨drawOk_sim [b, a, σ.length] [.reads 0, .reads 1, .reads 2, .calls 3 fun _ => true, .pure, .any] (.cons (by simp; omega) (.cons (by simp; omega) (.cons (by simp) .nil))) ?_ (by kernel_rfl), ?_⟩
 · refine .cons (.reads 0 _ rfl) (.cons (.reads 1 _ rfl) (.cons (.reads 2 _ rfl) (.cons (.keeps fun x hx => ?_) (.cons .pure (.cons (.any _) .nil)))))
   have hxf : x ≠ fid ∧ x < σ1.length := by
    simp at hx
    rcases hx with rfl | rfl | rfl <;> refine ⟨by omega, by omega⟩
   exact ⟨by simp [k1 x hxf.1], hxf.2⟩
 · exact hR0 _ _ _ ⟨_, rfl, rfl, hex _⟩
set_option maxRecDepth 100000 in
theorem into_params_ev (N : Nat) (tg off f : Nat) (σ : Sto) : CallW Tryz.prog (EN N) 48 [.ptr tg off, .fn (.func f) [] []] σ fun r σ' => ∃ T1 T2, r = .ret (.fn (.func 97) [] [.ptr (σ.length + 1) 0, .ptr σ.length 0]) ∧ σ' = σ ++ [.cells [.ptr tg off] T1, .cells [.fn (.func f) [] []] T2] := by
 refine CallW.start (fn := Tryz.f48) (M := []) rfl rfl rfl rfl (by simp) fun tm hlen hs => ?_
 have h0 := hs 0 _ rfl
 have h1 := hs 1 _ rfl
 clear hs
 simp at hlen
 refine CW.hide fun R0 hR0 => ?_
 refine CW.seqK fun K hK => CW.region ?_
 simp (maxDischargeDepth := 16) [symB, List.length_set, andThen, hlen, h0, h1]
 refine hK _ _ ?_; clear hK K
 refine CW.seqK fun K hK => CW.region ?_
 simp (maxDischargeDepth := 16) [symB, List.length_set, andThen, hlen]
 refine hK _ _ ?_; clear hK K
 refine CW.ret (hR0 _ _ _ ⟨.fn (.func 97) [] [.ptr (σ.length + 1) 0, .ptr σ.length 0], ?_, _, _, rfl, rfl⟩)
 simp [resultsA, omap, res_tmp, slot_eq, slot_ne, hlen]
set_option maxRecDepth 100000 in
theorem into1_params_ev (N : Nat) {t : Tr} {fid : Nat} {σ : Sto} {a b tg off T1 T2 Tt : Nat} {cs : List AV} (hf : fineT t) (hn : 8 * sizeT t + rank .params ≤ N) (hc : σ[fid]? = some cleanO) (ha : σ[a]? = some (.cells [.fn (.func (fidOf .params)) [] []] T2)) (hb : σ[b]? = some (.cells [.ptr tg off] T1)) (ht : σ[tg]? = some (.cells cs Tt)) (hto : tg ≠ fid) (hfit : off + lenR .params ≤ cs.length) :
    CallW Tryz.prog (EN N) 97 [nodeA t fid, .ptr a 0, .ptr b 0] σ fun r σ' => r = .ret (.tup []) ∧ Ext ((setF σ fid (rd N .params t).2).set tg (.cells (putCells cs off (rd N .params t).1) Tt)) σ' := by
 refine CallW.start (fn := Tryz.f97) (M := []) rfl rfl rfl rfl (by simp) fun tm hlen hs => ?_
 have h0 := hs 0 _ rfl
 have h1 := hs 1 _ rfl
 have h2 := hs 2 _ rfl
 clear hs
 rw [nodeA_eq] at h0
 simp at hlen
 refine CW.hide fun R0 hR0 => ?_
 refine CW.seqK fun K hK => CW.region ?_
 simp (maxDischargeDepth := 16) [symB, List.length_set, andThen, hlen, h0]
 refine hK _ _ ?_; clear hK K
 refine CW.reset2 (fun tm σ1 => tm.length = 9 ∧ slot tm 1 = .ptr a 0 ∧ slot tm 2 = .ptr b 0 ∧ slot tm 3 = .ptr σ.length 0 ∧ σ1 = σ ++ [nodeO t fid]) ⟨by simp [hlen], by simp [slot_ne, h1], by simp [slot_ne, h2], by simp [slot_eq, slot_ne, hlen], rfl⟩ ?_
 clear h0 h1 h2 hlen tm
 rintro tm σ1 ⟨hlen, h1, h2, h3, rfl⟩
 have hbx : (σ ++ [nodeO t fid])[σ.length]? = some (.cells [.lit (.string (bs t.word)), .sl (rowsOf t.kids) .no, .lit (.bool t.row), .lit (.int .i64 t.at_), .ptr fid 0] 57) := get_new _ _ _
 have hne1 : b ≠ a := ne_of_get hb ha (by simp)
 have hne2 : b ≠ fid := ne_of_get hb hc (by simp [cleanO])
 have hne3 : a ≠ fid := ne_of_get ha hc (by simp [cleanO])
 have hl := lt_of_obj hc
 have hla := lt_of_obj ha
 have hlb := lt_of_obj hb
 have hlt := lt_of_obj ht
 have hx : Ext σ (σ ++ [nodeO t fid]) := ⟨_, rfl⟩
 have hc' : (σ ++ [nodeO t fid])[fid]? = some cleanO := get_app hc
 have ha' : (σ ++ [nodeO t fid])[a]? = some (.cells [.fn (.func (fidOf .params)) [] []] T2) := get_app ha
 have hb' : (σ ++ [nodeO t fid])[b]? = some (.cells [.ptr tg off] T1) := get_app hb
 have ht' : (σ ++ [nodeO t fid])[tg]? = some (.cells cs Tt) := get_app ht
 have hlx := lt_of_obj hbx
 generalize σ ++ [nodeO t fid] = σ1 at *
 refine CW.draw (by kernel_rfl) ?_
 simp (maxDischargeDepth := 16) [symB, List.length_set, andThen, hlen, h1, h2, h3, ha', hb', hbx]
 rw [← nodeA_eq]
 refine rd_ev .params hf hn hc' ?_
 have hrk : rank .params ≤ N := by omega
 obtain ⟨hvc, hvt⟩ := valR_cells (t := t) hrk
 have hvl := rd_len N .params t hrk
 have hex : ∀ q, Ext ((setF σ fid (rd N .params t).2).set tg q) ((setF σ1 fid (rd N .params t).2).set tg q) := fun q => Ext.setL (setF_ext _ hx hl) (by rw [setF_len]; exact hlt) _
 generalize (rd N .params t).1 = v at *
 generalize (rd N .params t).2 = o at *
 have hs1 : (setF σ1 fid o)[tg]? = some (.cells cs Tt) := by rw [setF_ne _ hto]; exact ht'
 have k1 : ∀ x, x ≠ fid → keptB σ1 (setF σ1 fid o) x = true := fun x hx => keptB_of (setF_ne _ hx)
 generalize setF σ1 fid o = σ2 at *
 generalize valR .params v = vv at *
 simp only [lenR] at hvl hfit
 simp (maxDischargeDepth := 16) [symB, List.length_set, retK, andThen, hlen, h1, h2, h3, hs1, hvc, hvt, hvl, hfit]
 refine ⟨drawOk_sim [b, a, σ.length] [.reads 0, .reads 1, .reads 2, .calls 3 fun _ => true, .pure, .any] (.cons (by simp; omega) (.cons (by simp; omega) (.cons (by simp) .nil))) ?_ (by kernel_rfl), ?_⟩
 · refine .cons (.reads 0 _ rfl) (.cons (.reads 1 _ rfl) (.cons (.reads 2 _ rfl) (.cons (.keeps fun x hx => ?_) (.cons .pure (.cons (.any _) .nil)))))
   have hxf : x ≠ fid ∧ x < σ1.length := by
    simp at hx
    rcases hx with rfl | rfl | rfl <;> refine ⟨by omega, by omega⟩
   exact ⟨by simp [k1 x hxf.1], hxf.2⟩
 · exact hR0 _ _ _ ⟨_, rfl, rfl, hex _⟩
set_option maxRecDepth 100000 in
theorem into_kind_ev (N : Nat) (tg off f : Nat) (σ : Sto) : CallW Tryz.prog (EN N) 50 [.ptr tg off, .fn (.func f) [] []] σ fun r σ' => ∃ T1 T2, r = .ret (.fn (.func 100) [] [.ptr (σ.length + 1) 0, .ptr σ.length 0]) ∧ σ' = σ ++ [.cells [.ptr tg off] T1, .cells [.fn (.func f) [] []] T2] := by
 refine CallW.start (fn := Tryz.f50) (M := []) rfl rfl rfl rfl (by simp) fun tm hlen hs => ?_
 have h0 := hs 0 _ rfl
 have h1 := hs 1 _ rfl
 clear hs
 simp at hlen
 refine CW.hide fun R0 hR0 => ?_
 refine CW.seqK fun K hK => CW.region ?_
 simp (maxDischargeDepth := 16) [symB, List.length_set, andThen, hlen, h0, h1]
 refine hK _ _ ?_; clear hK K
 refine CW.seqK fun K hK => CW.region ?_
 simp (maxDischargeDepth := 16) [symB, List.length_set, andThen, hlen]
 refine hK _ _ ?_; clear hK K
 refine CW.ret (hR0 _ _ _ ⟨.fn (.func 100) [] [.ptr (σ.length + 1) 0, .ptr σ.length 0], ?_, _, _, rfl, rfl⟩)
 simp [resultsA, omap, res_tmp, slot_eq, slot_ne, hlen]
set_option maxRecDepth 100000 in
theorem into1_kind_ev (N : Nat) {t : Tr} {fid : Nat} {σ : Sto} {a b tg off T1 T2 Tt : Nat} {cs : List AV} (hf : fineT t) (hn : 8 * sizeT t + rank .kind ≤ N) (hc : σ[fid]? = some cleanO) (ha : σ[a]? = some (.cells [.fn (.func (fidOf .kind)) [] []] T2)) (hb : σ[b]? = some (.cells [.ptr tg off] T1)) (ht : σ[tg]? = some (.cells cs Tt)) (hto : tg ≠ fid) (hfit : off + lenR .kind ≤ cs.length) :
    CallW Tryz.prog (EN N) 100 [nodeA t fid, .ptr a 0, .ptr b 0] σ fun r σ' => r = .ret (.tup []) ∧ Ext ((setF σ fid (rd N .kind t).2).set tg (.cells (putCells cs off (rd N .kind t).1) Tt)) σ' := by
 refine CallW.start (fn := Tryz.f100) (M := []) rfl rfl rfl rfl (by simp) fun tm hlen hs => ?_
 have h0 := hs 0 _ rfl
 have h1 := hs 1 _ rfl
 have h2 := hs 2 _ rfl
 clear hs
 rw [nodeA_eq] at h0
 simp at hlen
 refine CW.hide fun R0 hR0 => ?_
 refine CW.seqK fun K hK => CW.region ?_
 simp (maxDischargeDepth := 16) [symB, List.length_set, andThen, hlen, h0]
 refine hK _ _ ?_; clear hK K
 refine CW.reset2 (fun tm σ1 => tm.length = 9 ∧ slot tm 1 = .ptr a 0 ∧ slot tm 2 = .ptr b 0 ∧ slot tm 3 = .ptr σ.length 0 ∧ σ1 = σ ++ [nodeO t fid]) ⟨by simp [hlen], by simp [slot_ne, h1], by simp [slot_ne, h2], by simp [slot_eq, slot_ne, hlen], rfl⟩ ?_
 clear h0 h1 h2 hlen tm
 rintro tm σ1 ⟨hlen, h1, h2, h3, rfl⟩
 have hbx : (σ ++ [nodeO t fid])[σ.length]? = some (.cells [.lit (.string (bs t.word)), .sl (rowsOf t.kids) .no, .lit (.bool t.row), .lit (.int .i64 t.at_), .ptr fid 0] 57) := get_new _ _ _
 have hne1 : b ≠ a := ne_of_get hb ha (by simp)
 have hne2 : b ≠ fid := ne_of_get hb hc (by simp [cleanO])
 have hne3 : a ≠ fid := ne_of_get ha hc (by simp [cleanO])
 have hl := lt_of_obj hc
 have hla := lt_of_obj ha
 have hlb := lt_of_obj hb
 have hlt := lt_of_obj ht
 have hx : Ext σ (σ ++ [nodeO t fid]) := ⟨_, rfl⟩
 have hc' : (σ ++ [nodeO t fid])[fid]? = some cleanO := get_app hc
 have ha' : (σ ++ [nodeO t fid])[a]? = some (.cells [.fn (.func (fidOf .kind)) [] []] T2) := get_app ha
 have hb' : (σ ++ [nodeO t fid])[b]? = some (.cells [.ptr tg off] T1) := get_app hb
 have ht' : (σ ++ [nodeO t fid])[tg]? = some (.cells cs Tt) := get_app ht
 have hlx := lt_of_obj hbx
 generalize σ ++ [nodeO t fid] = σ1 at *
 refine CW.draw (by kernel_rfl) ?_
 simp (maxDischargeDepth := 16) [symB, List.length_set, andThen, hlen, h1, h2, h3, ha', hb', hbx]
 rw [← nodeA_eq]
 refine rd_ev .kind hf hn hc' ?_
 have hrk : rank .kind ≤ N := by omega
 obtain ⟨hvc, hvt⟩ := valR_cells (t := t) hrk
 have hvl := rd_len N .kind t hrk
 have hex : ∀ q, Ext ((setF σ fid (rd N .kind t).2).set tg q) ((setF σ1 fid (rd N .kind t).2).set tg q) := fun q => Ext.setL (setF_ext _ hx hl) (by rw [setF_len]; exact hlt) _
 generalize (rd N .kind t).1 = v at *
 generalize (rd N .kind t).2 = o at *
 have hs1 : (setF σ1 fid o)[tg]? = some (.cells cs Tt) := by rw [setF_ne _ hto]; exact ht'
 have k1 : ∀ x, x ≠ fid → keptB σ1 (setF σ1 fid o) x = true := fun x hx => keptB_of (setF_ne _ hx)
 generalize setF σ1 fid o = σ2 at *
 generalize valR .kind v = vv at *
 simp only [lenR] at hvl hfit
 simp (maxDischargeDepth := 16) [symB, List.length_set, retK, andThen, hlen, h1, h2, h3, hs1, hvc, hvt, hvl, hfit]
 refine ⟨drawOk_sim [b, a, σ.length] [.reads 0, .reads 1, .reads 2, .calls 3 fun _ => true, .pure, .any] (.cons (by simp; omega) (.cons (by simp; omega) (.cons (by simp) .nil))) ?_ (by kernel_rfl), ?_⟩
 · refine .cons (.reads 0 _ rfl) (.cons (.reads 1 _ rfl) (.cons (.reads 2 _ rfl) (.cons (.keeps fun x hx => ?_) (.cons .pure (.cons (.any _) .nil)))))
   have hxf : x ≠ fid ∧ x < σ1.length := by
    simp at hx
    rcases hx with rfl | rfl | rfl <;> refine ⟨by omega, by omega⟩
   exact ⟨by simp [k1 x hxf.1], hxf.2⟩
 · exact hR0 _ _ _ ⟨_, rfl, rfl, hex _⟩
set_option maxRecDepth 100000 in
theorem into_body_ev (N : Nat) (tg off f : Nat) (σ : Sto) : CallW Tryz.prog (EN N) 52 [.ptr tg off, .fn (.func f) [] []] σ fun r σ' => ∃ T1 T2, r = .ret (.fn (.func 101) [] [.ptr (σ.length + 1) 0, .ptr σ.length 0]) ∧ σ' = σ ++ [.cells [.ptr tg off] T1, .cells [.fn (.func f) [] []] T2] := by
 refine CallW.start (fn := Tryz.f52) (M := []) rfl rfl rfl rfl (by simp) fun tm hlen hs => ?_
 have h0 := hs 0 _ rfl
 have h1 := hs 1 _ rfl
 clear hs
 simp at hlen
 refine CW.hide fun R0 hR0 => ?_
 refine CW.seqK fun K hK => CW.region ?_
 simp (maxDischargeDepth := 16) [symB, List.length_set, andThen, hlen, h0, h1]
 refine hK _ _ ?_; clear hK K
 refine CW.seqK fun K hK => CW.region ?_
 simp (maxDischargeDepth := 16) [symB, List.length_set, andThen, hlen]
 refine hK _ _ ?_; clear hK K
 refine CW.ret (hR0 _ _ _ ⟨.fn (.func 101) [] [.ptr (σ.length + 1) 0, .ptr σ.length 0], ?_, _, _, rfl, rfl⟩)
 simp [resultsA, omap, res_tmp, slot_eq, slot_ne, hlen]
set_option maxRecDepth 100000 in
theorem into1_body_ev (N : Nat) {t : Tr} {fid : Nat} {σ : Sto} {a b tg off T1 T2 Tt : Nat} {cs : List AV} (hf : fineT t) (hn : 8 * sizeT t + rank .body ≤ N) (hc : σ[fid]? = some cleanO) (ha : σ[a]? = some (.cells [.fn (.func (fidOf .body)) [] []] T2)) (hb : σ[b]? = some (.cells [.ptr tg off] T1)) (ht : σ[tg]? = some (.cells cs Tt)) (hto : tg ≠ fid) (hfit : off + lenR .body ≤ cs.length) :
    CallW Tryz.prog (EN N) 101 [nodeA t fid, .ptr a 0, .ptr b 0] σ fun r σ' => r = .ret (.tup []) ∧ Ext ((setF σ fid (rd N .body t).2).set tg (.cells (putCells cs off (rd N .body t).1) Tt)) σ' := by
 refine CallW.start (fn := Tryz.f101) (M := []) rfl rfl rfl rfl (by simp) fun tm hlen hs => ?_
 have h0 := hs 0 _ rfl
 have h1 := hs 1 _ rfl
 have h2 := hs 2 _ rfl
 clear hs
 rw [nodeA_eq] at h0
 simp at hlen
 refine CW.hide fun R0 hR0 => ?_
 refine CW.seqK fun K hK => CW.region ?_
 simp (maxDischargeDepth := 16) [symB, List.length_set, andThen, hlen, h0]
 refine hK _ _ ?_; clear hK K
 refine CW.reset2 (fun tm σ1 => tm.length = 9 ∧ slot tm 1 = .ptr a 0 ∧ slot tm 2 = .ptr b 0 ∧ slot tm 3 = .ptr σ.length 0 ∧ σ1 = σ ++ [nodeO t fid]) ⟨by simp [hlen], by simp [slot_ne, h1], by simp [slot_ne, h2], by simp [slot_eq, slot_ne, hlen], rfl⟩ ?_
 clear h0 h1 h2 hlen tm
 rintro tm σ1 ⟨hlen, h1, h2, h3, rfl⟩
 have hbx : (σ ++ [nodeO t fid])[σ.length]? = some (.cells [.lit (.string (bs t.word)), .sl (rowsOf t.kids) .no, .lit (.bool t.row), .lit (.int .i64 t.at_), .ptr fid 0] 57) := get_new _ _ _
 have hne1 : b ≠ a := ne_of_get hb ha (by simp)
 have hne2 : b ≠ fid := ne_of_get hb hc (by simp [cleanO])
 have hne3 : a ≠ fid := ne_of_get ha hc (by simp [cleanO])
 have hl := lt_of_obj hc
 have hla := lt_of_obj ha
 have hlb := lt_of_obj hb
 have hlt := lt_of_obj ht
 have hx : Ext σ (σ ++ [nodeO t fid]) := ⟨_, rfl⟩
 have hc' : (σ ++ [nodeO t fid])[fid]? = some cleanO := get_app hc
 have ha' : (σ ++ [nodeO t fid])[a]? = some (.cells [.fn (.func (fidOf .body)) [] []] T2) := get_app ha
 have hb' : (σ ++ [nodeO t fid])[b]? = some (.cells [.ptr tg off] T1) := get_app hb
 have ht' : (σ ++ [nodeO t fid])[tg]? = some (.cells cs Tt) := get_app ht
 have hlx := lt_of_obj hbx
 generalize σ ++ [nodeO t fid] = σ1 at *
 refine CW.draw (by kernel_rfl) ?_
 simp (maxDischargeDepth := 16) [symB, List.length_set, andThen, hlen, h1, h2, h3, ha', hb', hbx]
 rw [← nodeA_eq]
 refine rd_ev .body hf hn hc' ?_
 have hrk : rank .body ≤ N := by omega
 obtain ⟨hvc, hvt⟩ := valR_cells (t := t) hrk
 have hvl := rd_len N .body t hrk
 have hex : ∀ q, Ext ((setF σ fid (rd N .body t).2).set tg q) ((setF σ1 fid (rd N .body t).2).set tg q) := fun q => Ext.setL (setF_ext _ hx hl) (by rw [setF_len]; exact hlt) _
 generalize (rd N .body t).1 = v at *
 generalize (rd N .body t).2 = o at *
 have hs1 : (setF σ1 fid o)[tg]? = some (.cells cs Tt) := by rw [setF_ne _ hto]; exact ht'
 have k1 : ∀ x, x ≠ fid → keptB σ1 (setF σ1 fid o) x = true := fun x hx => keptB_of (setF_ne _ hx)
 generalize setF σ1 fid o = σ2 at *
 generalize valR .body v = vv at *
 simp only [lenR] at hvl hfit
 simp (maxDischargeDepth := 16) [symB, List.length_set, retK, andThen, hlen, h1, h2, h3, hs1, hvc, hvt, hvl, hfit]
 refine ⟨drawOk_sim [b, a, σ.length] [.reads 0, .reads 1, .reads 2, .calls 3 fun _ => true, .pure, .any] (.cons (by simp; omega) (.cons (by simp; omega) (.cons (by simp) .nil))) ?_ (by kernel_rfl), ?_⟩
 · refine .cons (.reads 0 _ rfl) (.cons (.reads 1 _ rfl) (.cons (.reads 2 _ rfl) (.cons (.keeps fun x hx => ?_) (.cons .pure (.cons (.any _) .nil)))))
   have hxf : x ≠ fid ∧ x < σ1.length := by
    simp at hx
    rcases hx with rfl | rfl | rfl <;> refine ⟨by omega, by omega⟩
   exact ⟨by simp [k1 x hxf.1], hxf.2⟩
 · exact hR0 _ _ _ ⟨_, rfl, rfl, hex _⟩
set_option maxRecDepth 100000 in
theorem into_whole_ev (N : Nat) (tg off f : Nat) (σ : Sto) : CallW Tryz.prog (EN N) 73 [.ptr tg off, .fn (.func f) [] []] σ fun r σ' => ∃ T1 T2, r = .ret (.fn (.func 122) [] [.ptr (σ.length + 1) 0, .ptr σ.length 0]) ∧ σ' = σ ++ [.cells [.ptr tg off] T1, .cells [.fn (.func f) [] []] T2] := by
 refine CallW.start (fn := Tryz.f73) (M := []) rfl rfl rfl rfl (by simp) fun tm hlen hs => ?_
 have h0 := hs 0 _ rfl
 have h1 := hs 1 _ rfl
 clear hs
 simp at hlen
 refine CW.hide fun R0 hR0 => ?_
 refine CW.seqK fun K hK => CW.region ?_
 simp (maxDischargeDepth := 16) [symB, List.length_set, andThen, hlen, h0, h1]
 refine hK _ _ ?_; clear hK K
 refine CW.seqK fun K hK => CW.region ?_
 simp (maxDischargeDepth := 16) [symB, List.length_set, andThen, hlen]
 refine hK _ _ ?_; clear hK K
 refine CW.ret (hR0 _ _ _ ⟨.fn (.func 122) [] [.ptr (σ.length + 1) 0, .ptr σ.length 0], ?_, _, _, rfl, rfl⟩)
 simp [resultsA, omap, res_tmp, slot_eq, slot_ne, hlen]
set_option maxRecDepth 100000 in
theorem into1_whole_ev (N : Nat) {t : Tr} {fid : Nat} {σ : Sto} {a b tg off T1 T2 Tt : Nat} {cs : List AV} (hf : fineT t) (hn : 8 * sizeT t + rank .whole ≤ N) (hc : σ[fid]? = some cleanO) (ha : σ[a]? = some (.cells [.fn (.func (fidOf .whole)) [] []] T2)) (hb : σ[b]? = some (.cells [.ptr tg off] T1)) (ht : σ[tg]? = some (.cells cs Tt)) (hto : tg ≠ fid) (hfit : off + lenR .whole ≤ cs.length) :
    CallW Tryz.prog (EN N) 122 [nodeA t fid, .ptr a 0, .ptr b 0] σ fun r σ' => r = .ret (.tup []) ∧ Ext ((setF σ fid (rd N .whole t).2).set tg (.cells (putCells cs off (rd N .whole t).1) Tt)) σ' := by
 refine CallW.start (fn := Tryz.f122) (M := []) rfl rfl rfl rfl (by simp) fun tm hlen hs => ?_
 have h0 := hs 0 _ rfl
 have h1 := hs 1 _ rfl
 have h2 := hs 2 _ rfl
 clear hs
 rw [nodeA_eq] at h0
 simp at hlen
 refine CW.hide fun R0 hR0 => ?_
 refine CW.seqK fun K hK => CW.region ?_
 simp (maxDischargeDepth := 16) [symB, List.length_set, andThen, hlen, h0]
 refine hK _ _ ?_; clear hK K
 refine CW.reset2 (fun tm σ1 => tm.length = 9 ∧ slot tm 1 = .ptr a 0 ∧ slot tm 2 = .ptr b 0 ∧ slot tm 3 = .ptr σ.length 0 ∧ σ1 = σ ++ [nodeO t fid]) ⟨by simp [hlen], by simp [slot_ne, h1], by simp [slot_ne, h2], by simp [slot_eq, slot_ne, hlen], rfl⟩ ?_
 clear h0 h1 h2 hlen tm
 rintro tm σ1 ⟨hlen, h1, h2, h3, rfl⟩
 have hbx : (σ ++ [nodeO t fid])[σ.length]? = some (.cells [.lit (.string (bs t.word)), .sl (rowsOf t.kids) .no, .lit (.bool t.row), .lit (.int .i64 t.at_), .ptr fid 0] 57) := get_new _ _ _
 have hne1 : b ≠ a := ne_of_get hb ha (by simp)
 have hne2 : b ≠ fid := ne_of_get hb hc (by simp [cleanO])
 have hne3 : a ≠ fid := ne_of_get ha hc (by simp [cleanO])
 have hl := lt_of_obj hc
 have hla := lt_of_obj ha
 have hlb := lt_of_obj hb
 have hlt := lt_of_obj ht
 have hx : Ext σ (σ ++ [nodeO t fid]) := ⟨_, rfl⟩
 have hc' : (σ ++ [nodeO t fid])[fid]? = some cleanO := get_app hc
 have ha' : (σ ++ [nodeO t fid])[a]? = some (.cells [.fn (.func (fidOf .whole)) [] []] T2) := get_app ha
 have hb' : (σ ++ [nodeO t fid])[b]? = some (.cells [.ptr tg off] T1) := get_app hb
 have ht' : (σ ++ [nodeO t fid])[tg]? = some (.cells cs Tt) := get_app ht
 have hlx := lt_of_obj hbx
 generalize σ ++ [nodeO t fid] = σ1 at *
 refine CW.draw (by kernel_rfl) ?_
 simp (maxDischargeDepth := 16) [symB, List.length_set, andThen, hlen, h1, h2, h3, ha', hb', hbx]
 rw [← nodeA_eq]
 refine rd_ev .whole hf hn hc' ?_
 have hrk : rank .whole ≤ N := by omega
 obtain ⟨hvc, hvt⟩ := valR_cells (t := t) hrk
 have hvl := rd_len N .whole t hrk
 have hex : ∀ q, Ext ((setF σ fid (rd N .whole t).2).set tg q) ((setF σ1 fid (rd N .whole t).2).set tg q) := fun q => Ext.setL (setF_ext _ hx hl) (by rw [setF_len]; exact hlt) _
 generalize (rd N .whole t).1 = v at *
 generalize (rd N .whole t).2 = o at *
 have hs1 : (setF σ1 fid o)[tg]? = some (.cells cs Tt) := by rw [setF_ne _ hto]; exact ht'
 have k1 : ∀ x, x ≠ fid → keptB σ1 (setF σ1 fid o) x = true := fun x hx => keptB_of (setF_ne _ hx)
 generalize setF σ1 fid o = σ2 at *
 generalize valR .whole v = vv at *
 simp only [lenR] at hvl hfit
 simp (maxDischargeDepth := 16) [symB, List.length_set, retK, andThen, hlen, h1, h2, h3, hs1, hvc, hvt, hvl, hfit]
 refine ⟨drawOk_sim [b, a, σ.length] [.reads 0, .reads 1, .reads 2, .calls 3 fun _ => true, .pure, .any] (.cons (by simp; omega) (.cons (by simp; omega) (.cons (by simp) .nil))) ?_ (by kernel_rfl), ?_⟩
 · refine .cons (.reads 0 _ rfl) (.cons (.reads 1 _ rfl) (.cons (.reads 2 _ rfl) (.cons (.keeps fun x hx => ?_) (.cons .pure (.cons (.any _) .nil)))))
   have hxf : x ≠ fid ∧ x < σ1.length := by
    simp at hx
    rcases hx with rfl | rfl | rfl <;> refine ⟨by omega, by omega⟩
   exact ⟨by simp [k1 x hxf.1], hxf.2⟩
 · exact hR0 _ _ _ ⟨_, rfl, rfl, hex _⟩
set_option maxRecDepth 100000 in
theorem into_right_ev (N : Nat) (tg off f : Nat) (σ : Sto) : CallW Tryz.prog (EN N) 135 [.ptr tg off, .fn (.func f) [] []] σ fun r σ' => ∃ T1 T2, r = .ret (.fn (.func 175) [] [.ptr (σ.length + 1) 0, .ptr σ.length 0]) ∧ σ' = σ ++ [.cells [.ptr tg off] T1, .cells [.fn (.func f) [] []] T2] := by
 refine CallW.start (fn := Tryz.f135) (M := []) rfl rfl rfl rfl (by simp) fun tm hlen hs => ?_
 have h0 := hs 0 _ rfl
 have h1 := hs 1 _ rfl
 clear hs
 simp at hlen
 refine CW.hide fun R0 hR0 => ?_
 refine CW.seqK fun K hK => CW.region ?_
 simp (maxDischargeDepth := 16) [symB, List.length_set, andThen, hlen, h0, h1]
 refine hK _ _ ?_; clear hK K
 refine CW.seqK fun K hK => CW.region ?_
 simp (maxDischargeDepth := 16) [symB, List.length_set, andThen, hlen]
 refine hK _ _ ?_; clear hK K
 refine CW.ret (hR0 _ _ _ ⟨.fn (.func 175) [] [.ptr (σ.length + 1) 0, .ptr σ.length 0], ?_, _, _, rfl, rfl⟩)
 simp [resultsA, omap, res_tmp, slot_eq, slot_ne, hlen]
set_option maxRecDepth 100000 in
theorem into1_right_ev (N : Nat) {t : Tr} {fid : Nat} {σ : Sto} {a b tg off T1 T2 Tt : Nat} {cs : List AV} (hf : fineT t) (hn : 8 * sizeT t + rank .right ≤ N) (hc : σ[fid]? = some cleanO) (ha : σ[a]? = some (.cells [.fn (.func (fidOf .right)) [] []] T2)) (hb : σ[b]? = some (.cells [.ptr tg off] T1)) (ht : σ[tg]? = some (.cells cs Tt)) (hto : tg ≠ fid) (hfit : off + lenR .right ≤ cs.length) :
    CallW Tryz.prog (EN N) 175 [nodeA t fid, .ptr a 0, .ptr b 0] σ fun r σ' => r = .ret (.tup []) ∧ Ext ((setF σ fid (rd N .right t).2).set tg (.cells (putCells cs off (rd N .right t).1) Tt)) σ' := by
 refine CallW.start (fn := Tryz.f175) (M := []) rfl rfl rfl rfl (by simp) fun tm hlen hs => ?_
 have h0 := hs 0 _ rfl
 have h1 := hs 1 _ rfl
 have h2 := hs 2 _ rfl
 clear hs
 rw [nodeA_eq] at h0
 simp at hlen
 refine CW.hide fun R0 hR0 => ?_
 refine CW.seqK fun K hK => CW.region ?_
 simp (maxDischargeDepth := 16) [symB, List.length_set, andThen, hlen, h0]
 refine hK _ _ ?_; clear hK K
 refine CW.reset2 (fun tm σ1 => tm.length = 9 ∧ slot tm 1 = .ptr a 0 ∧ slot tm 2 = .ptr b 0 ∧ slot tm 3 = .ptr σ.length 0 ∧ σ1 = σ ++ [nodeO t fid]) ⟨by simp [hlen], by simp [slot_ne, h1], by simp [slot_ne, h2], by simp [slot_eq, slot_ne, hlen], rfl⟩ ?_
 clear h0 h1 h2 hlen tm
 rintro tm σ1 ⟨hlen, h1, h2, h3, rfl⟩
 have hbx : (σ ++ [nodeO t fid])[σ.length]? = some (.cells [.lit (.string (bs t.word)), .sl (rowsOf t.kids) .no, .lit (.bool t.row), .lit (.int .i64 t.at_), .ptr fid 0] 57) := get_new _ _ _
 have hne1 : b ≠ a := ne_of_get hb ha (by simp)
 have hne2 : b ≠ fid := ne_of_get hb hc (by simp [cleanO])
 have hne3 : a ≠ fid := ne_of_get ha hc (by simp [cleanO])
 have hl := lt_of_obj hc
 have hla := lt_of_obj ha
 have hlb := lt_of_obj hb
 have hlt := lt_of_obj ht
 have hx : Ext σ (σ ++ [nodeO t fid]) := ⟨_, rfl⟩
 have hc' : (σ ++ [nodeO t fid])[fid]? = some cleanO := get_app hc
 have ha' : (σ ++ [nodeO t fid])[a]? = some (.cells [.fn (.func (fidOf .right)) [] []] T2) := get_app ha
 have hb' : (σ ++ [nodeO t fid])[b]? = some (.cells [.ptr tg off] T1) := get_app hb
 have ht' : (σ ++ [nodeO t fid])[tg]? = some (.cells cs Tt) := get_app ht
 have hlx := lt_of_obj hbx
 generalize σ ++ [nodeO t fid] = σ1 at *
 refine CW.draw (by kernel_rfl) ?_
 simp (maxDischargeDepth := 16) [symB, List.length_set, andThen, hlen, h1, h2, h3, ha', hb', hbx]
 rw [← nodeA_eq]
 refine rd_ev .right hf hn hc' ?_
 have hrk : rank .right ≤ N := by omega
 obtain ⟨hvc, hvt⟩ := valR_cells (t := t) hrk
 have hvl := rd_len N .right t hrk
 have hex : ∀ q, Ext ((setF σ fid (rd N .right t).2).set tg q) ((setF σ1 fid (rd N .right t).2).set tg q) := fun q => Ext.setL (setF_ext _ hx hl) (by rw [setF_len]; exact hlt) _
 generalize (rd N .right t).1 = v at *
 generalize (rd N .right t).2 = o at *
 have hs1 : (setF σ1 fid o)[tg]? = some (.cells cs Tt) := by rw [setF_ne _ hto]; exact ht'
 have k1 : ∀ x, x ≠ fid → keptB σ1 (setF σ1 fid o) x = true := fun x hx => keptB_of (setF_ne _ hx)
 generalize setF σ1 fid o = σ2 at *
 generalize valR .right v = vv at *
 simp only [lenR] at hvl hfit
 simp (maxDischargeDepth := 16) [symB, List.length_set, retK, andThen, hlen, h1, h2, h3, hs1, hvc, hvt, hvl, hfit]
 refine ⟨drawOk_sim [b, a, σ.length] [.reads 0, .reads 1, .reads 2, .calls 3 fun _ => true, .pure, .any] (.cons (by simp; omega) (.cons (by simp; omega) (.cons (by simp) .nil))) ?_ (by kernel_rfl), ?_⟩
 · refine .cons (.reads 0 _ rfl) (.cons (.reads 1 _ rfl) (.cons (.reads 2 _ rfl) (.cons (.keeps fun x hx => ?_) (.cons .pure (.cons (.any _) .nil)))))
   have hxf : x ≠ fid ∧ x < σ1.length := by
    simp at hx
    rcases hx with rfl | rfl | rfl <;> refine ⟨by omega, by omega⟩
   exact ⟨by simp [k1 x hxf.1], hxf.2⟩
 · exact hR0 _ _ _ ⟨_, rfl, rfl, hex _⟩
set_option maxRecDepth 100000 in
theorem into_names_ev (N : Nat) (tg off f : Nat) (σ : Sto) : CallW Tryz.prog (EN N) 178 [.ptr tg off, .fn (.func f) [] []] σ fun r σ' => ∃ T1 T2, r = .ret (.fn (.func 206) [] [.ptr (σ.length + 1) 0, .ptr σ.length 0]) ∧ σ' = σ ++ [.cells [.ptr tg off] T1, .cells [.fn (.func f) [] []] T2] := by
 refine CallW.start (fn := Tryz.f178) (M := []) rfl rfl rfl rfl (by simp) fun tm hlen hs => ?_
 have h0 := hs 0 _ rfl
 have h1 := hs 1 _ rfl
 clear hs
 simp at hlen
 refine CW.hide fun R0 hR0 => ?_
 refine CW.seqK fun K hK => CW.region ?_
 simp (maxDischargeDepth := 16) [symB, List.length_set, andThen, hlen, h0, h1]
 refine hK _ _ ?_; clear hK K
 refine CW.seqK fun K hK => CW.region ?_
 simp (maxDischargeDepth := 16) [symB, List.length_set, andThen, hlen]
 refine hK _ _ ?_; clear hK K
 refine CW.ret (hR0 _ _ _ ⟨.fn (.func 206) [] [.ptr (σ.length + 1) 0, .ptr σ.length 0], ?_, _, _, rfl, rfl⟩)
 simp [resultsA, omap, res_tmp, slot_eq, slot_ne, hlen]
set_option maxRecDepth 100000 in
theorem into1_names_ev (N : Nat) {t : Tr} {fid : Nat} {σ : Sto} {a b tg off T1 T2 Tt : Nat} {cs : List AV} (hf : fineT t) (hn : 8 * sizeT t + rank .names ≤ N) (hc : σ[fid]? = some cleanO) (ha : σ[a]? = some (.cells [.fn (.func (fidOf .names)) [] []] T2)) (hb : σ[b]? = some (.cells [.ptr tg off] T1)) (ht : σ[tg]? = some (.cells cs Tt)) (hto : tg ≠ fid) (hfit : off + lenR .names ≤ cs.length) :
    CallW Tryz.prog (EN N) 206 [nodeA t fid, .ptr a 0, .ptr b 0] σ fun r σ' => r = .ret (.tup []) ∧ Ext ((setF σ fid (rd N .names t).2).set tg (.cells (putCells cs off (rd N .names t).1) Tt)) σ' := by
 refine CallW.start (fn := Tryz.f206) (M := []) rfl rfl rfl rfl (by simp) fun tm hlen hs => ?_
 have h0 := hs 0 _ rfl
 have h1 := hs 1 _ rfl
 have h2 := hs 2 _ rfl
 clear hs
 rw [nodeA_eq] at h0
 simp at hlen
 refine CW.hide fun R0 hR0 => ?_
 refine CW.seqK fun K hK => CW.region ?_
 simp (maxDischargeDepth := 16) [symB, List.length_set, andThen, hlen, h0]
 refine hK _ _ ?_; clear hK K
 refine CW.reset2 (fun tm σ1 => tm.length = 9 ∧ slot tm 1 = .ptr a 0 ∧ slot tm 2 = .ptr b 0 ∧ slot tm 3 = .ptr σ.length 0 ∧ σ1 = σ ++ [nodeO t fid]) ⟨by simp [hlen], by simp [slot_ne, h1], by simp [slot_ne, h2], by simp [slot_eq, slot_ne, hlen], rfl⟩ ?_
 clear h0 h1 h2 hlen tm
 rintro tm σ1 ⟨hlen, h1, h2, h3, rfl⟩
 have hbx : (σ ++ [nodeO t fid])[σ.length]? = some (.cells [.lit (.string (bs t.word)), .sl (rowsOf t.kids) .no, .lit (.bool t.row), .lit (.int .i64 t.at_), .ptr fid 0] 57) := get_new _ _ _
 have hne1 : b ≠ a := ne_of_get hb ha (by simp)
 have hne2 : b ≠ fid := ne_of_get hb hc (by simp [cleanO])
 have hne3 : a ≠ fid := ne_of_get ha hc (by simp [cleanO])
 have hl := lt_of_obj hc
 have hla := lt_of_obj ha
 have hlb := lt_of_obj hb
 have hlt := lt_of_obj ht
 have hx : Ext σ (σ ++ [nodeO t fid]) := ⟨_, rfl⟩
 have hc' : (σ ++ [nodeO t fid])[fid]? = some cleanO := get_app hc
 have ha' : (σ ++ [nodeO t fid])[a]? = some (.cells [.fn (.func (fidOf .names)) [] []] T2) := get_app ha
 have hb' : (σ ++ [nodeO t fid])[b]? = some (.cells [.ptr tg off] T1) := get_app hb
 have ht' : (σ ++ [nodeO t fid])[tg]? = some (.cells cs Tt) := get_app ht
 have hlx := lt_of_obj hbx
 generalize σ ++ [nodeO t fid] = σ1 at *
 refine CW.draw (by kernel_rfl) ?_
 simp (maxDischargeDepth := 16) [symB, List.length_set, andThen, hlen, h1, h2, h3, ha', hb', hbx]
 rw [← nodeA_eq]
 refine rd_ev .names hf hn hc' ?_
 have hrk : rank .names ≤ N := by omega
 obtain ⟨hvc, hvt⟩ := valR_cells (t := t) hrk
 have hvl := rd_len N .names t hrk
 have hex : ∀ q, Ext ((setF σ fid (rd N .names t).2).set tg q) ((setF σ1 fid (rd N .names t).2).set tg q) := fun q => Ext.setL (setF_ext _ hx hl) (by rw [setF_len]; exact hlt) _
 generalize (rd N .names t).1 = v at *
 generalize (rd N .names t).2 = o at *
 have hs1 : (setF σ1 fid o)[tg]? = some (.cells cs Tt) := by rw [setF_ne _ hto]; exact ht'
 have k1 : ∀ x, x ≠ fid → keptB σ1 (setF σ1 fid o) x = true := fun x hx => keptB_of (setF_ne _ hx)
 generalize setF σ1 fid o = σ2 at *
 generalize valR .names v = vv at *
 simp only [lenR] at hvl hfit
 simp (maxDischargeDepth := 16) [symB, List.length_set, retK, andThen, hlen, h1, h2, h3, hs1, hvc, hvt, hvl, hfit]
 refine ⟨drawOk_sim [b, a, σ.length] [.reads 0, .reads 1, .reads 2, .calls 3 fun _ => true, .pure, .any] (.cons (by simp; omega) (.cons (by simp; omega) (.cons (by simp) .nil))) ?_ (by kernel_rfl), ?_⟩
 · refine .cons (.reads 0 _ rfl) (.cons (.reads 1 _ rfl) (.cons (.reads 2 _ rfl) (.cons (.keeps fun x hx => ?_) (.cons .pure (.cons (.any _) .nil)))))
   have hxf : x ≠ fid ∧ x < σ1.length := by
    simp at hx
    rcases hx with rfl | rfl | rfl <;> refine ⟨by omega, by omega⟩
   exact ⟨by simp [k1 x hxf.1], hxf.2⟩
 · exact hR0 _ _ _ ⟨_, rfl, rfl, hex _⟩
end Go.Proofs.YtkkblmdgedmdfaaGreatDoor
