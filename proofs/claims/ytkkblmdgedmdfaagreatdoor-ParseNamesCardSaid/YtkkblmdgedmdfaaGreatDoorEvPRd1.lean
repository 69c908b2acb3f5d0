/-
 EV: parse: names, params, many; sorted, param; kind (printed by gen_rd1.py).
-/
import Derived.Test.YtkkblmdgedmdfaaGreatDoorEvPWordM
namespace Go.Proofs.YtkkblmdgedmdfaaGreatDoor
set_option linter.unusedSimpArgs false
set_option linter.unusedVariables false
open Go.RowKit
theorem five_of {α : Type} {l : List α} (h : l.length = 5) : ∃ a b c d e, l = [a, b, c, d, e] := by
 match l, h with
 | [a, b, c, d, e], _ => exact ⟨a, b, c, d, e, rfl⟩
set_option maxRecDepth 100000 in
theorem names_rd (N : Nat) : RdOk N .names := by
 intro t fid σ hf hn hc
 show JC _ _ 179 _ _ _
 refine JC.startW (fn := Tryz.f179) (M := []) rfl rfl rfl (by simp) fun tm hlen hs => ?_
 have h0 := hs 0 _ rfl
 clear hs
 rw [nodeA_eq] at h0
 simp at hlen
 refine CW.hide fun R0 hR0 => ?_
 have hfl := lt_of_obj hc
 refine CW.seqK fun K hK => CW.region ?_
 simp (maxDischargeDepth := 16) [symB, List.length_set, andThen, hlen, h0]
 refine hK _ _ ?_; clear hK K
 refine CW.reset2 (fun tm σ1 => tm.length = 5 ∧ slot tm 1 = .ptr σ.length 0 ∧ σ1 = σ ++ [nodeO t fid]) ⟨by simp [hlen], by simp [slot_eq, slot_ne, hlen], rfl⟩ ?_
 clear h0 hlen tm
 rintro tm σ0 ⟨hlen, h1, hσ0⟩
 have hb0 : σ0[σ.length]? = some (.cells [.lit (.string (bs t.word)), .sl (rowsOf t.kids) .no, .lit (.bool t.row), .lit (.int .i64 t.at_), .ptr fid 0] 57) := by rw [hσ0]; exact get_new _ _ _
 have hx0 : Ext σ σ0 := by rw [hσ0]; exact ⟨_, rfl⟩
 have hc0 : σ0[fid]? = some cleanO := by rw [hσ0]; exact get_app hc
 clear hσ0
 refine CW.seqK fun K hK => CW.region ?_
 simp (maxDischargeDepth := 16) [symB, List.length_set, andThen, hlen, h1, hb0]
 rw [← nodeA_eq]
 refine (all_name_ev N .name rfl (fineT_l hf) (fun u hu => by have := size_kid hu; simp [rank] at hn ⊢; omega) hc0 (fineT_k hf)).mono ?_
 rintro r σ2 ⟨tok, rfl, hx2⟩
 simp (maxDischargeDepth := 16) [symB, List.length_set, retK, andThen, hlen]
 refine hK _ _ ?_
 refine CW.ret (hR0 _ _ _ ⟨.sl (allS (rd N .name) t).1 tok, ?_, ?_⟩)
 · simp [resultsA, omap, res_tmp, slot_eq, slot_ne, hlen]
 · refine fgt_of ((setF_ext _ hx0 hfl).trans hx2) hc ?_
   exact Frz.okR (okR_all fun u => rd_ok N .name u) tok
set_option maxRecDepth 100000 in
theorem params_rd (N : Nat) : RdOk N .params := by
 intro t fid σ hf hn hc
 show JC _ _ 49 _ _ _
 refine JC.startW (fn := Tryz.f49) (M := []) rfl rfl rfl (by simp) fun tm hlen hs => ?_
 have h0 := hs 0 _ rfl
 clear hs
 rw [nodeA_eq] at h0
 simp at hlen
 refine CW.hide fun R0 hR0 => ?_
 have hfl := lt_of_obj hc
 refine CW.seqK fun K hK => CW.region ?_
 simp (maxDischargeDepth := 16) [symB, List.length_set, andThen, hlen, h0]
 refine hK _ _ ?_; clear hK K
 refine CW.reset2 (fun tm σ1 => tm.length = 5 ∧ slot tm 1 = .ptr σ.length 0 ∧ σ1 = σ ++ [nodeO t fid]) ⟨by simp [hlen], by simp [slot_eq, slot_ne, hlen], rfl⟩ ?_
 clear h0 hlen tm
 rintro tm σ0 ⟨hlen, h1, hσ0⟩
 have hb0 : σ0[σ.length]? = some (.cells [.lit (.string (bs t.word)), .sl (rowsOf t.kids) .no, .lit (.bool t.row), .lit (.int .i64 t.at_), .ptr fid 0] 57) := by rw [hσ0]; exact get_new _ _ _
 have hx0 : Ext σ σ0 := by rw [hσ0]; exact ⟨_, rfl⟩
 have hc0 : σ0[fid]? = some cleanO := by rw [hσ0]; exact get_app hc
 clear hσ0
 refine CW.seqK fun K hK => CW.region ?_
 simp (maxDischargeDepth := 16) [symB, List.length_set, andThen, hlen, h1, hb0]
 rw [← nodeA_eq]
 refine (all_param_ev N .param rfl (fineT_l hf) (fun u hu => by have := size_kid hu; simp [rank] at hn ⊢; omega) hc0 (fineT_k hf)).mono ?_
 rintro r σ2 ⟨tok, rfl, hx2⟩
 simp (maxDischargeDepth := 16) [symB, List.length_set, retK, andThen, hlen]
 refine hK _ _ ?_
 refine CW.ret (hR0 _ _ _ ⟨.sl (allS (rd N .param) t).1 tok, ?_, ?_⟩)
 · simp [resultsA, omap, res_tmp, slot_eq, slot_ne, hlen]
 · refine fgt_of ((setF_ext _ hx0 hfl).trans hx2) hc ?_
   exact Frz.okR (okR_all fun u => rd_ok N .param u) tok
set_option maxRecDepth 100000 in
theorem many_rd (N : Nat) : RdOk N .many := by
 intro t fid σ hf hn hc
 show JC _ _ 46 _ _ _
 refine JC.startW (fn := Tryz.f46) (M := []) rfl rfl rfl (by simp) fun tm hlen hs => ?_
 have h0 := hs 0 _ rfl
 clear hs
 rw [nodeA_eq] at h0
 simp at hlen
 refine CW.hide fun R0 hR0 => ?_
 have hfl := lt_of_obj hc
 refine CW.seqK fun K hK => CW.region ?_
 simp (maxDischargeDepth := 16) [symB, List.length_set, andThen, hlen, h0]
 refine hK _ _ ?_; clear hK K
 refine CW.reset2 (fun tm σ1 => tm.length = 5 ∧ slot tm 1 = .ptr σ.length 0 ∧ σ1 = σ ++ [nodeO t fid]) ⟨by simp [hlen], by simp [slot_eq, slot_ne, hlen], rfl⟩ ?_
 clear h0 hlen tm
 rintro tm σ0 ⟨hlen, h1, hσ0⟩
 have hb0 : σ0[σ.length]? = some (.cells [.lit (.string (bs t.word)), .sl (rowsOf t.kids) .no, .lit (.bool t.row), .lit (.int .i64 t.at_), .ptr fid 0] 57) := by rw [hσ0]; exact get_new _ _ _
 have hx0 : Ext σ σ0 := by rw [hσ0]; exact ⟨_, rfl⟩
 have hc0 : σ0[fid]? = some cleanO := by rw [hσ0]; exact get_app hc
 clear hσ0
 refine CW.seqK fun K hK => CW.region ?_
 simp (maxDischargeDepth := 16) [symB, List.length_set, andThen, hlen, h1, hb0]
 rw [← nodeA_eq]
 refine (all_sorted_ev N .sorted rfl (fineT_l hf) (fun u hu => by have := size_kid hu; simp [rank] at hn ⊢; omega) hc0 (fineT_k hf)).mono ?_
 rintro r σ2 ⟨tok, rfl, hx2⟩
 simp (maxDischargeDepth := 16) [symB, List.length_set, retK, andThen, hlen]
 refine hK _ _ ?_
 refine CW.ret (hR0 _ _ _ ⟨.sl (allS (rd N .sorted) t).1 tok, ?_, ?_⟩)
 · simp [resultsA, omap, res_tmp, slot_eq, slot_ne, hlen]
 · refine fgt_of ((setF_ext _ hx0 hfl).trans hx2) hc ?_
   exact Frz.okR (okR_all fun u => rd_ok N .sorted u) tok
set_option maxRecDepth 100000 in
set_option maxHeartbeats 1000000 in
theorem sorted_rd (N : Nat) : RdOk N .sorted := by
 intro t fid σ hf hn hc
 show JC _ _ 95 _ _ _
 refine JC.startW (fn := Tryz.f95) (M := []) rfl rfl rfl (by simp) fun tm hlen hs => ?_
 have h0 := hs 0 _ rfl
 clear hs
 rw [nodeA_eq] at h0
 simp at hlen
 refine CW.hide fun R0 hR0 => ?_
 have hfl := lt_of_obj hc
 refine CW.seqK fun K hK => CW.region ?_
 simp (maxDischargeDepth := 16) [symB, List.length_set, andThen, hlen, h0]
 refine hK _ _ ?_; clear hK K
 refine CW.reset2 (fun tm σ1 => tm.length = 11 ∧ slot tm 1 = .ptr σ.length 0 ∧ slot tm 2 = .ptr (σ.length + 1) 0 ∧ σ1 = σ ++ [nodeO t fid, .cells [.lit (.string ⟨#[]⟩), .lit (.string ⟨#[]⟩)] 199]) ⟨by simp [hlen], by simp [slot_eq, slot_ne, hlen], by simp [slot_eq, slot_ne, hlen], rfl⟩ ?_
 clear h0 hlen tm
 rintro tm σ0 ⟨hlen, h1, h2, hσ0⟩
 have hb0 : σ0[σ.length]? = some (.cells [.lit (.string (bs t.word)), .sl (rowsOf t.kids) .no, .lit (.bool t.row), .lit (.int .i64 t.at_), .ptr fid 0] 57) := by rw [hσ0]; exact get_new _ _ _
 have hp : σ0[σ.length + 1]? = some (.cells [.lit (.string ⟨#[]⟩), .lit (.string ⟨#[]⟩)] 199) := by rw [hσ0]; exact get_new1 _ _ _ _
 have hx0 : Ext σ σ0 := by rw [hσ0]; exact ⟨_, rfl⟩
 have hc0 : σ0[fid]? = some cleanO := by rw [hσ0]; exact get_app hc
 have hl0 : σ0.length = σ.length + 2 := by rw [hσ0]; simp
 clear hσ0
 refine CW.seqK fun K hK => CW.draw (by kernel_rfl) ?_
 simp (maxDischargeDepth := 16) [symB, List.length_set, andThen, hlen, h1, h2, hb0]
 refine (into_name_ev N (σ.length + 1) 0 (fidOf .name) σ0).mono ?_
 rintro r σi0 ⟨Ta0, Tb0, rfl, hi0⟩
 have hli0 : σi0.length = σ0.length + 2 := by rw [hi0]; simp
 have xi0 : extB σ0 σi0 = true := extB_of ⟨_, hi0⟩
 have hei0 : Ext σ0 σi0 := ⟨_, hi0⟩
 have ga0 : σi0[σ0.length]? = some (.cells [.ptr (σ.length + 1) 0] Ta0) := by rw [hi0]; exact get_new _ _ _
 have gb0 : σi0[σ0.length + 1]? = some (.cells [.fn (.func (fidOf .name)) [] []] Tb0) := by rw [hi0]; exact get_new1 _ _ _ _
 have hei0s : Ext σ0 σi0 := hei0
 have hpi0 := hei0s.get hp
 have hbi0 := hei0s.get hb0
 simp (maxDischargeDepth := 16) [symB, List.length_set, retK, andThen, hlen, h1, h2, hb0, hpi0, hbi0]
 refine (into_name_ev N (σ.length + 1) 1 (fidOf .name) σi0).mono ?_
 rintro r σi1 ⟨Ta1, Tb1, rfl, hi1⟩
 have hli1 : σi1.length = σi0.length + 2 := by rw [hi1]; simp
 have xi1 : extB σi0 σi1 = true := extB_of ⟨_, hi1⟩
 have hei1 : Ext σi0 σi1 := ⟨_, hi1⟩
 have ga1 : σi1[σi0.length]? = some (.cells [.ptr (σ.length + 1) 1] Ta1) := by rw [hi1]; exact get_new _ _ _
 have gb1 : σi1[σi0.length + 1]? = some (.cells [.fn (.func (fidOf .name)) [] []] Tb1) := by rw [hi1]; exact get_new1 _ _ _ _
 have hei1s : Ext σ0 σi1 := hei0s.trans hei1
 have hpi1 := hei1s.get hp
 have hbi1 := hei1s.get hb0
 simp (maxDischargeDepth := 16) [symB, List.length_set, retK, andThen, hlen, h1, h2, hb0, hpi1, hbi1]
 rw [← nodeA_eq]
 have hneP : σ.length + 1 ≠ fid := by omega
 refine (parts_ev N [.into .name (σ.length + 1) 0, .into .name (σ.length + 1) 1] (vs := [.fn (.func (clos .name)) [] [.ptr (σ0.length + 1) 0, .ptr σ0.length 0], .fn (.func (clos .name)) [] [.ptr (σi0.length + 1) 0, .ptr σi0.length 0]]) (hi := σ0.length) rfl ?_ (fineT_l hf) ?_ (hei1s.get hc0) (fineT_k hf) (by simp)).mono ?_
 · intro k g v hg hv
   match k with
   | 0 => cases hg; cases hv; exact ⟨rfl, _, _, _, _, _, _, rfl, by omega, by omega, by omega, hneP, (hei1.get gb0), (hei1.get ga0), hpi1, by simp [lenR]⟩
   | 1 => cases hg; cases hv; exact ⟨rfl, _, _, _, _, _, _, rfl, by omega, by omega, by omega, hneP, gb1, ga1, hpi1, by simp [lenR]⟩
   | k + 2 => simp at hg
 · intro u hu g hg
   have := size_kid hu
   simp at hg
   rcases hg with rfl | rfl <;> (simp [rankT, rank] at hn ⊢; omega)
 rintro r σE ⟨rfl, hxp⟩
 obtain ⟨o0, o1, ho⟩ := two_of (partsS_len (fs := [rd N .name, rd N .name]) (t := t))
 have hq0 : okO (some o0) := by have := okO_parts (N := N) (gs := [.into .name (σ.length + 1) 0, .into .name (σ.length + 1) 1]) (t := t) (k := 0); rwa [show (partsS (List.map (rdT N) [.into .name (σ.length + 1) 0, .into .name (σ.length + 1) 1]) t).1 = [o0, o1] from ho] at this
 have hq1 : okO (some o1) := by have := okO_parts (N := N) (gs := [.into .name (σ.length + 1) 0, .into .name (σ.length + 1) 1]) (t := t) (k := 1); rwa [show (partsS (List.map (rdT N) [.into .name (σ.length + 1) 0, .into .name (σ.length + 1) 1]) t).1 = [o0, o1] from ho] at this
 have hP : partsF N fid [.into .name (σ.length + 1) 0, .into .name (σ.length + 1) 1] t σi1 = putT (putT (setF σi1 fid (partsS [rd N .name, rd N .name] t).2) (.into .name (σ.length + 1) 0) o0) (.into .name (σ.length + 1) 1) o1 := by
  rw [partsF_eq _ _ _ _ _ (fun g tg off hm => by simp at hm; rcases hm with ⟨_, rfl, _⟩ | ⟨_, rfl, _⟩ <;> assumption)]
  show putTs _ _ (partsS [rd N .name, rd N .name] t).1 = _
  rw [ho]; simp only [putTs, putT_skip]; rfl
 have hpE := hxp.get (by rw [hP]; exact (putT_get (putT_get ((setF_ne _ hneP).trans hpi1))))
 have hxE : Ext (setF σ fid (partsS [rd N .name, rd N .name] t).2) σE := by
  rw [hP] at hxp
  exact (putT_ext (putT_ext (setF_ext _ (hx0.trans hei1s) hfl) (by rw [setF_len]; omega)) (by rw [setF_len]; omega)).trans hxp
 have hr1 : (rd (N + 1) .sorted t).1 = putO (putO sortedZ 0 (some o0)) 1 (some o1) := by
  show putO (putO sortedZ 0 (partsS [rd N .name, rd N .name] t).1[0]?) 1 (partsS [rd N .name, rd N .name] t).1[1]? = _
  rw [ho]; rfl
 have hz : ∀ σ'' n, FrzL σ'' n (putO (putO [.lit (.string ⟨#[]⟩), .lit (.string ⟨#[]⟩)] 0 (some o0)) 1 (some o1)) (rd (N + 1) .sorted t).1 := fun σ'' n => by
  rw [hr1]
  exact FrzL.putO (FrzL.putO (show FrzL σ'' n _ sortedZ from (.cons (.lit _) (.cons (.lit _) .nil))) hq0) hq1
 have hvl : (putO (putO [.lit (.string ⟨#[]⟩), .lit (.string ⟨#[]⟩)] 0 (some o0)) 1 (some o1)).length = 2 := by rw [putO_len, putO_len]; rfl
 change Ext (setF σ fid (rd (N + 1) .sorted t).2) σE at hxE
 generalize putO (putO [.lit (.string ⟨#[]⟩), .lit (.string ⟨#[]⟩)] 0 (some o0)) 1 (some o1) = v at *
 simp (maxDischargeDepth := 16) [symB, List.length_set, retK, andThen, hlen]
 refine ⟨drawOk_sim [σ.length] [.reads 0, .pure, .calls 1 fun _ => true, .pure, .calls 1 fun _ => true, .pure, .any] (.cons (by simp) .nil) ?_ (by kernel_rfl), ?_⟩
 · refine .cons (.reads 0 _ rfl) (.cons .pure (.cons (.keeps fun x hx => ?_) (.cons .pure (.cons (.keeps fun x hx => ?_) (.cons .pure (.cons (.any _) .nil))))))
   · simp at hx; subst hx; exact ⟨by simp [xi0], by omega⟩
   · simp at hx; subst hx; exact ⟨by simp [xi1], by omega⟩
 refine hK _ _ ?_; clear hK K
 have htk : List.take 2 v = v := List.take_of_length_le (by omega)
 have hxs : ∀ o, Ext _ (σE.set (σ.length + 1) o) := fun o => hxE.set (by rw [setF_len]; omega)
 have hsr : ∀ o, (σE.set (σ.length + 1) o)[σ.length + 1]? = some o := fun o => List.getElem?_set_self (lt_of_obj hpE)
 have hpv : putCells v 0 v = v := by have := putCells_app v v [] rfl; simpa using this
 refine CW.seqK fun K hK => CW.region ?_
 simp (maxDischargeDepth := 16) [symB, List.length_set, andThen, hlen, h1, h2, hpE, hvl, htk, hpv]
 refine hK _ _ ?_; clear hK K
 refine CW.ret (hR0 _ _ _ ⟨.agg v, ?_, fgt_of (hxs _) hc (hz _ _).agg⟩)
 simp [resultsA, omap, res_tmp, res_cell, slot_eq, slot_ne, hlen, h2, hsr, partA, aggT, hvl, htk]
set_option maxRecDepth 100000 in
set_option maxHeartbeats 1000000 in
theorem param_rd (N : Nat) : RdOk N .param := by
 intro t fid σ hf hn hc
 show JC _ _ 99 _ _ _
 refine JC.startW (fn := Tryz.f99) (M := []) rfl rfl rfl (by simp) fun tm hlen hs => ?_
 have h0 := hs 0 _ rfl
 clear hs
 rw [nodeA_eq] at h0
 simp at hlen
 refine CW.hide fun R0 hR0 => ?_
 have hfl := lt_of_obj hc
 refine CW.seqK fun K hK => CW.region ?_
 simp (maxDischargeDepth := 16) [symB, List.length_set, andThen, hlen, h0]
 refine hK _ _ ?_; clear hK K
 refine CW.reset2 (fun tm σ1 => tm.length = 11 ∧ slot tm 1 = .ptr σ.length 0 ∧ slot tm 2 = .ptr (σ.length + 1) 0 ∧ σ1 = σ ++ [nodeO t fid, .cells [.lit (.string ⟨#[]⟩), .lit (.bool false), .lit (.string ⟨#[]⟩), .lit (.int .u8 0), .lit (.string ⟨#[]⟩), .lit (.bool false), .sl [] .full, .sl [] .full, .sl [] .full, .sl [] .full] 204]) ⟨by simp [hlen], by simp [slot_eq, slot_ne, hlen], by simp [slot_eq, slot_ne, hlen], rfl⟩ ?_
 clear h0 hlen tm
 rintro tm σ0 ⟨hlen, h1, h2, hσ0⟩
 have hb0 : σ0[σ.length]? = some (.cells [.lit (.string (bs t.word)), .sl (rowsOf t.kids) .no, .lit (.bool t.row), .lit (.int .i64 t.at_), .ptr fid 0] 57) := by rw [hσ0]; exact get_new _ _ _
 have hp : σ0[σ.length + 1]? = some (.cells [.lit (.string ⟨#[]⟩), .lit (.bool false), .lit (.string ⟨#[]⟩), .lit (.int .u8 0), .lit (.string ⟨#[]⟩), .lit (.bool false), .sl [] .full, .sl [] .full, .sl [] .full, .sl [] .full] 204) := by rw [hσ0]; exact get_new1 _ _ _ _
 have hx0 : Ext σ σ0 := by rw [hσ0]; exact ⟨_, rfl⟩
 have hc0 : σ0[fid]? = some cleanO := by rw [hσ0]; exact get_app hc
 have hl0 : σ0.length = σ.length + 2 := by rw [hσ0]; simp
 clear hσ0
 refine CW.seqK fun K hK => CW.draw (by kernel_rfl) ?_
 simp (maxDischargeDepth := 16) [symB, List.length_set, andThen, hlen, h1, h2, hb0]
 refine (into_name_ev N (σ.length + 1) 0 (fidOf .name) σ0).mono ?_
 rintro r σi0 ⟨Ta0, Tb0, rfl, hi0⟩
 have hli0 : σi0.length = σ0.length + 2 := by rw [hi0]; simp
 have xi0 : extB σ0 σi0 = true := extB_of ⟨_, hi0⟩
 have hei0 : Ext σ0 σi0 := ⟨_, hi0⟩
 have ga0 : σi0[σ0.length]? = some (.cells [.ptr (σ.length + 1) 0] Ta0) := by rw [hi0]; exact get_new _ _ _
 have gb0 : σi0[σ0.length + 1]? = some (.cells [.fn (.func (fidOf .name)) [] []] Tb0) := by rw [hi0]; exact get_new1 _ _ _ _
 have hei0s : Ext σ0 σi0 := hei0
 have hpi0 := hei0s.get hp
 have hbi0 := hei0s.get hb0
 simp (maxDischargeDepth := 16) [symB, List.length_set, retK, andThen, hlen, h1, h2, hb0, hpi0, hbi0]
 refine (into_kind_ev N (σ.length + 1) 1 (fidOf .kind) σi0).mono ?_
 rintro r σi1 ⟨Ta1, Tb1, rfl, hi1⟩
 have hli1 : σi1.length = σi0.length + 2 := by rw [hi1]; simp
 have xi1 : extB σi0 σi1 = true := extB_of ⟨_, hi1⟩
 have hei1 : Ext σi0 σi1 := ⟨_, hi1⟩
 have ga1 : σi1[σi0.length]? = some (.cells [.ptr (σ.length + 1) 1] Ta1) := by rw [hi1]; exact get_new _ _ _
 have gb1 : σi1[σi0.length + 1]? = some (.cells [.fn (.func (fidOf .kind)) [] []] Tb1) := by rw [hi1]; exact get_new1 _ _ _ _
 have hei1s : Ext σ0 σi1 := hei0s.trans hei1
 have hpi1 := hei1s.get hp
 have hbi1 := hei1s.get hb0
 simp (maxDischargeDepth := 16) [symB, List.length_set, retK, andThen, hlen, h1, h2, hb0, hpi1, hbi1]
 rw [← nodeA_eq]
 have hneP : σ.length + 1 ≠ fid := by omega
 refine (parts_ev N [.into .name (σ.length + 1) 0, .into .kind (σ.length + 1) 1] (vs := [.fn (.func (clos .name)) [] [.ptr (σ0.length + 1) 0, .ptr σ0.length 0], .fn (.func (clos .kind)) [] [.ptr (σi0.length + 1) 0, .ptr σi0.length 0]]) (hi := σ0.length) rfl ?_ (fineT_l hf) ?_ (hei1s.get hc0) (fineT_k hf) (by simp)).mono ?_
 · intro k g v hg hv
   match k with
   | 0 => cases hg; cases hv; exact ⟨rfl, _, _, _, _, _, _, rfl, by omega, by omega, by omega, hneP, (hei1.get gb0), (hei1.get ga0), hpi1, by simp [lenR]⟩
   | 1 => cases hg; cases hv; exact ⟨rfl, _, _, _, _, _, _, rfl, by omega, by omega, by omega, hneP, gb1, ga1, hpi1, by simp [lenR]⟩
   | k + 2 => simp at hg
 · intro u hu g hg
   have := size_kid hu
   simp at hg
   rcases hg with rfl | rfl <;> (simp [rankT, rank] at hn ⊢; omega)
 rintro r σE ⟨rfl, hxp⟩
 obtain ⟨o0, o1, ho⟩ := two_of (partsS_len (fs := [rd N .name, rd N .kind]) (t := t))
 have hq0 : okO (some o0) := by have := okO_parts (N := N) (gs := [.into .name (σ.length + 1) 0, .into .kind (σ.length + 1) 1]) (t := t) (k := 0); rwa [show (partsS (List.map (rdT N) [.into .name (σ.length + 1) 0, .into .kind (σ.length + 1) 1]) t).1 = [o0, o1] from ho] at this
 have hq1 : okO (some o1) := by have := okO_parts (N := N) (gs := [.into .name (σ.length + 1) 0, .into .kind (σ.length + 1) 1]) (t := t) (k := 1); rwa [show (partsS (List.map (rdT N) [.into .name (σ.length + 1) 0, .into .kind (σ.length + 1) 1]) t).1 = [o0, o1] from ho] at this
 have hP : partsF N fid [.into .name (σ.length + 1) 0, .into .kind (σ.length + 1) 1] t σi1 = putT (putT (setF σi1 fid (partsS [rd N .name, rd N .kind] t).2) (.into .name (σ.length + 1) 0) o0) (.into .kind (σ.length + 1) 1) o1 := by
  rw [partsF_eq _ _ _ _ _ (fun g tg off hm => by simp at hm; rcases hm with ⟨_, rfl, _⟩ | ⟨_, rfl, _⟩ <;> assumption)]
  show putTs _ _ (partsS [rd N .name, rd N .kind] t).1 = _
  rw [ho]; simp only [putTs, putT_skip]; rfl
 have hpE := hxp.get (by rw [hP]; exact (putT_get (putT_get ((setF_ne _ hneP).trans hpi1))))
 have hxE : Ext (setF σ fid (partsS [rd N .name, rd N .kind] t).2) σE := by
  rw [hP] at hxp
  exact (putT_ext (putT_ext (setF_ext _ (hx0.trans hei1s) hfl) (by rw [setF_len]; omega)) (by rw [setF_len]; omega)).trans hxp
 have hr1 : (rd (N + 1) .param t).1 = putO (putO paramZ 0 (some o0)) 1 (some o1) := by
  show putO (putO paramZ 0 (partsS [rd N .name, rd N .kind] t).1[0]?) 1 (partsS [rd N .name, rd N .kind] t).1[1]? = _
  rw [ho]; rfl
 have hz : ∀ σ'' n, FrzL σ'' n (putO (putO [.lit (.string ⟨#[]⟩), .lit (.bool false), .lit (.string ⟨#[]⟩), .lit (.int .u8 0), .lit (.string ⟨#[]⟩), .lit (.bool false), .sl [] .full, .sl [] .full, .sl [] .full, .sl [] .full] 0 (some o0)) 1 (some o1)) (rd (N + 1) .param t).1 := fun σ'' n => by
  rw [hr1]
  exact FrzL.putO (FrzL.putO (show FrzL σ'' n _ paramZ from (.cons (.lit _) (.cons (.lit _) (.cons (.lit _) (.cons (.lit _) (.cons (.lit _) (.cons (.lit _) (.cons (.nil _) (.cons (.nil _) (.cons (.nil _) (.cons (.nil _) .nil))))))))))) hq0) hq1
 have hvl : (putO (putO [.lit (.string ⟨#[]⟩), .lit (.bool false), .lit (.string ⟨#[]⟩), .lit (.int .u8 0), .lit (.string ⟨#[]⟩), .lit (.bool false), .sl [] .full, .sl [] .full, .sl [] .full, .sl [] .full] 0 (some o0)) 1 (some o1)).length = 10 := by rw [putO_len, putO_len]; rfl
 change Ext (setF σ fid (rd (N + 1) .param t).2) σE at hxE
 generalize putO (putO [.lit (.string ⟨#[]⟩), .lit (.bool false), .lit (.string ⟨#[]⟩), .lit (.int .u8 0), .lit (.string ⟨#[]⟩), .lit (.bool false), .sl [] .full, .sl [] .full, .sl [] .full, .sl [] .full] 0 (some o0)) 1 (some o1) = v at *
 simp (maxDischargeDepth := 16) [symB, List.length_set, retK, andThen, hlen]
 refine ⟨drawOk_sim [σ.length] [.reads 0, .pure, .calls 1 fun _ => true, .pure, .calls 1 fun _ => true, .pure, .any] (.cons (by simp) .nil) ?_ (by kernel_rfl), ?_⟩
 · refine .cons (.reads 0 _ rfl) (.cons .pure (.cons (.keeps fun x hx => ?_) (.cons .pure (.cons (.keeps fun x hx => ?_) (.cons .pure (.cons (.any _) .nil))))))
   · simp at hx; subst hx; exact ⟨by simp [xi0], by omega⟩
   · simp at hx; subst hx; exact ⟨by simp [xi1], by omega⟩
 refine hK _ _ ?_; clear hK K
 have htk : List.take 10 v = v := List.take_of_length_le (by omega)
 have hxs : ∀ o, Ext _ (σE.set (σ.length + 1) o) := fun o => hxE.set (by rw [setF_len]; omega)
 have hsr : ∀ o, (σE.set (σ.length + 1) o)[σ.length + 1]? = some o := fun o => List.getElem?_set_self (lt_of_obj hpE)
 have hpv : putCells v 0 v = v := by have := putCells_app v v [] rfl; simpa using this
 refine CW.seqK fun K hK => CW.region ?_
 simp (maxDischargeDepth := 16) [symB, List.length_set, andThen, hlen, h1, h2, hpE, hvl, htk, hpv]
 refine hK _ _ ?_; clear hK K
 refine CW.ret (hR0 _ _ _ ⟨.agg v, ?_, fgt_of (hxs _) hc (hz _ _).agg⟩)
 simp [resultsA, omap, res_tmp, res_cell, slot_eq, slot_ne, hlen, h2, hsr, partA, aggT, hvl, htk]
set_option maxRecDepth 100000 in
set_option maxHeartbeats 1000000 in
theorem kind_rd (N : Nat) : RdOk N .kind := by
 intro t fid σ hf hn hc
 show JC _ _ 51 _ _ _
 refine JC.startW (fn := Tryz.f51) (M := []) rfl rfl rfl (by simp) fun tm hlen hs => ?_
 have h0 := hs 0 _ rfl
 clear hs
 rw [nodeA_eq] at h0
 simp at hlen
 refine CW.hide fun R0 hR0 => ?_
 have hfl := lt_of_obj hc
 refine CW.seqK fun K hK => CW.region ?_
 simp (maxDischargeDepth := 16) [symB, List.length_set, andThen, hlen, h0]
 refine hK _ _ ?_; clear hK K
 refine CW.reset2 (fun tm σ1 => tm.length = 26 ∧ slot tm 1 = .ptr σ.length 0 ∧ slot tm 2 = .ptr (σ.length + 1) 0 ∧ σ1 = σ ++ [nodeO t fid, .cells [.lit (.bool false), .lit (.string ⟨#[]⟩), .lit (.int .u8 0), .lit (.string ⟨#[]⟩), .lit (.bool false), .sl [] .full, .sl [] .full, .sl [] .full, .sl [] .full] 117]) ⟨by simp [hlen], by simp [slot_eq, slot_ne, hlen], by simp [slot_eq, slot_ne, hlen], rfl⟩ ?_
 clear h0 hlen tm
 rintro tm σ0 ⟨hlen, h1, h2, hσ0⟩
 have hb0 : σ0[σ.length]? = some (.cells [.lit (.string (bs t.word)), .sl (rowsOf t.kids) .no, .lit (.bool t.row), .lit (.int .i64 t.at_), .ptr fid 0] 57) := by rw [hσ0]; exact get_new _ _ _
 have hp : σ0[σ.length + 1]? = some (.cells [.lit (.bool false), .lit (.string ⟨#[]⟩), .lit (.int .u8 0), .lit (.string ⟨#[]⟩), .lit (.bool false), .sl [] .full, .sl [] .full, .sl [] .full, .sl [] .full] 117) := by rw [hσ0]; exact get_new1 _ _ _ _
 have hx0 : Ext σ σ0 := by rw [hσ0]; exact ⟨_, rfl⟩
 have hc0 : σ0[fid]? = some cleanO := by rw [hσ0]; exact get_app hc
 have hl0 : σ0.length = σ.length + 2 := by rw [hσ0]; simp
 clear hσ0
 refine CW.seqK fun KA hKA => ?_
 refine CW.seqK fun KB hKB => CW.region ?_
 simp (maxDischargeDepth := 16) [symB, List.length_set, andThen, hlen, h1, hb0]
 rw [← nodeA_eq]
 refine (head_ev N t fid σ0 (fineT_k hf)).mono ?_
 rintro r σh ⟨rfl, hxh⟩
 replace hb0 := hxh.get hb0
 replace hp := hxh.get hp
 replace hc0 := hxh.get hc0
 replace hl0 : σ.length + 2 ≤ σh.length := by have := hxh.len; omega
 replace hx0 := hx0.trans hxh
 clear hxh
 have htl : (bs (headS t)).toList = headS t := bs_list _
 have ht1 : (⟨#[45, 62]⟩ : ByteArray).toList = [45, 62] := bs_list [45, 62]
 rcases Classical.em (headS t = [45, 62]) with e1 | e1
 · simp (maxDischargeDepth := 16) [symB, List.length_set, retK, andThen, hlen, strA, htl, ht1, e1, bs_list]
   refine hKB _ _ ?_; clear hKB KB
   refine CW.cond (t := false) (by simp [evx_tmp, slot_eq, slot_ne, hlen, e1, bs_list]) ?_
   refine CW.skip ?_
   simp only [andThen]
   refine hKA _ _ ?_; clear hKA KA
   refine CW.seqK fun K hK => CW.region ?_
   simp (maxDischargeDepth := 16) [symB, List.length_set, andThen, hlen]
   refine hK _ _ ?_; clear hK K
   refine CW.reset2 (fun tm σ1 => tm.length = 26 ∧ slot tm 1 = .ptr σ.length 0 ∧ slot tm 2 = .ptr (σ.length + 1) 0 ∧ slot tm 3 = .ptr σh.length 0 ∧ σ1 = σh ++ [.cells [.lit (.bool false), .lit (.string ⟨#[]⟩), .lit (.int .u8 0), .lit (.string ⟨#[]⟩), .lit (.bool false), .sl [] .full, .sl [] .full, .sl [] .full, .sl [] .full] 117]) ⟨by simp [hlen], by simp [slot_ne, h1], by simp [slot_ne, h2], by simp [slot_eq, slot_ne, hlen], rfl⟩ ?_
   clear h1 h2 hlen tm
   rintro tm σk ⟨hlen, h1, h2, h3, hσk⟩
   have hr : σk[σh.length]? = some (.cells [.lit (.bool false), .lit (.string ⟨#[]⟩), .lit (.int .u8 0), .lit (.string ⟨#[]⟩), .lit (.bool false), .sl [] .full, .sl [] .full, .sl [] .full, .sl [] .full] 117) := by rw [hσk]; exact get_new _ _ _
   have hek : Ext σh σk := by rw [hσk]; exact ⟨_, rfl⟩
   replace hb0 := hek.get hb0
   replace hp := hek.get hp
   replace hc0 := hek.get hc0
   replace hx0 := hx0.trans hek
   have hlk : σk.length = σh.length + 1 := by rw [hσk]; simp
   clear hσk hek
   refine CW.seqK fun K hK => CW.draw (by kernel_rfl) ?_
   simp (maxDischargeDepth := 16) [symB, List.length_set, andThen, hlen, h1, h2, h3, hb0]
   refine (into_params_ev N (σ.length + 1) 7 (fidOf .params) σk).mono ?_
   rintro r σi1 ⟨Ta1, Tb1, rfl, hi1⟩
   have hli1 : σi1.length = σk.length + 2 := by rw [hi1]; simp
   have xi1 : extB σk σi1 = true := extB_of ⟨_, hi1⟩
   have hei1 : Ext σk σi1 := ⟨_, hi1⟩
   have ga1 : σi1[σk.length]? = some (.cells [.ptr (σ.length + 1) 7] Ta1) := by rw [hi1]; exact get_new _ _ _
   have gb1 : σi1[σk.length + 1]? = some (.cells [.fn (.func (fidOf .params)) [] []] Tb1) := by rw [hi1]; exact get_new1 _ _ _ _
   have hei1s : Ext σk σi1 := hei1
   have hpi1 := hei1s.get hp
   have hri1 := hei1s.get hr
   have hbi1 := hei1s.get hb0
   simp (maxDischargeDepth := 16) [symB, List.length_set, retK, andThen, hlen, h1, h2, h3, hb0, hpi1, hri1, hbi1]
   refine (into_kind_ev N (σh.length) 0 (fidOf .kind) σi1).mono ?_
   rintro r σi2 ⟨Ta2, Tb2, rfl, hi2⟩
   have hli2 : σi2.length = σi1.length + 2 := by rw [hi2]; simp
   have xi2 : extB σi1 σi2 = true := extB_of ⟨_, hi2⟩
   have hei2 : Ext σi1 σi2 := ⟨_, hi2⟩
   have ga2 : σi2[σi1.length]? = some (.cells [.ptr (σh.length) 0] Ta2) := by rw [hi2]; exact get_new _ _ _
   have gb2 : σi2[σi1.length + 1]? = some (.cells [.fn (.func (fidOf .kind)) [] []] Tb2) := by rw [hi2]; exact get_new1 _ _ _ _
   have hei2s : Ext σk σi2 := hei1s.trans hei2
   have hpi2 := hei2s.get hp
   have hri2 := hei2s.get hr
   have hbi2 := hei2s.get hb0
   simp (maxDischargeDepth := 16) [symB, List.length_set, retK, andThen, hlen, h1, h2, h3, hb0, hpi2, hri2, hbi2]
   rw [← nodeA_eq]
   have hneP : σ.length + 1 ≠ fid := by omega
   have hneR : σh.length ≠ fid := by omega
   refine (parts_ev N [.skip, .into .params (σ.length + 1) 7, .into .kind (σh.length) 0] (vs := [.fn (.func 43) [] [], .fn (.func (clos .params)) [] [.ptr (σk.length + 1) 0, .ptr σk.length 0], .fn (.func (clos .kind)) [] [.ptr (σi1.length + 1) 0, .ptr σi1.length 0]]) (hi := σk.length) rfl ?_ (fineT_l hf) ?_ (hei2s.get hc0) (fineT_k hf) (by simp)).mono ?_
   · intro k g v hg hv
     match k with
     | 0 => cases hg; cases hv; rfl
     | 1 => cases hg; cases hv; exact ⟨rfl, _, _, _, _, _, _, rfl, by omega, by omega, by omega, hneP, (hei2.get gb1), (hei2.get ga1), hpi2, by simp [lenR]⟩
     | 2 => cases hg; cases hv; exact ⟨rfl, _, _, _, _, _, _, rfl, by omega, by omega, by omega, hneR, gb2, ga2, hri2, by simp [lenR]⟩
     | k + 3 => simp at hg
   · intro u hu g hg
     have := size_kid hu
     simp at hg
     rcases hg with rfl | rfl | rfl <;> (simp [rankT, rank] at hn ⊢; omega)
   rintro r σE ⟨rfl, hxp⟩
   obtain ⟨o0, o1, o2, ho⟩ := three_of (partsS_len (fs := [skipS, rd N .params, rd N .kind]) (t := t))
   have hq1 : okO (some o1) := by have := okO_parts (N := N) (gs := [.skip, .into .params (σ.length + 1) 7, .into .kind (σh.length) 0]) (t := t) (k := 1); rwa [show (partsS (List.map (rdT N) [.skip, .into .params (σ.length + 1) 7, .into .kind (σh.length) 0]) t).1 = [o0, o1, o2] from ho] at this
   have hq2 : okO (some o2) := by have := okO_parts (N := N) (gs := [.skip, .into .params (σ.length + 1) 7, .into .kind (σh.length) 0]) (t := t) (k := 2); rwa [show (partsS (List.map (rdT N) [.skip, .into .params (σ.length + 1) 7, .into .kind (σh.length) 0]) t).1 = [o0, o1, o2] from ho] at this
   have hP : partsF N fid [.skip, .into .params (σ.length + 1) 7, .into .kind (σh.length) 0] t σi2 = putT (putT (setF σi2 fid (partsS [skipS, rd N .params, rd N .kind] t).2) (.into .params (σ.length + 1) 7) o1) (.into .kind (σh.length) 0) o2 := by
    rw [partsF_eq _ _ _ _ _ (fun g tg off hm => by simp at hm; rcases hm with ⟨_, rfl, _⟩ | ⟨_, rfl, _⟩ <;> assumption)]
    show putTs _ _ (partsS [skipS, rd N .params, rd N .kind] t).1 = _
    rw [ho]; simp only [putTs, putT_skip]; rfl
   have hpE := hxp.get (by rw [hP]; exact ((putT_ne (by omega)).trans (putT_get ((setF_ne _ hneP).trans hpi2))))
   have hrE := hxp.get (by rw [hP]; exact (putT_get ((putT_ne (by omega)).trans ((setF_ne _ hneR).trans hri2))))
   have hxE : Ext (setF σ fid (partsS [skipS, rd N .params, rd N .kind] t).2) σE := by
    rw [hP] at hxp
    exact (putT_ext (putT_ext (setF_ext _ (hx0.trans hei2s) hfl) (by rw [setF_len]; omega)) (by rw [setF_len]; omega)).trans hxp
   have hrd : rd (N + 1) .kind t = ((putO kindZ 7 (some o1)).set 0 (boolA true) |>.set 8 (rowsA' [putO kindZ 0 (some o2)]), (partsS [skipS, rd N .params, rd N .kind] t).2) := by
    show (if headS t = [45, 62] then _ else _) = _
    rw [if_pos e1]
    show ((putO kindZ 7 (partsS [skipS, rd N .params, rd N .kind] t).1[1]?).set 0 (boolA true) |>.set 8 (rowsA' [putO kindZ 0 (partsS [skipS, rd N .params, rd N .kind] t).1[2]?]), _) = _
    rw [ho]; rfl
   have hzP : ∀ σ'' n, FrzL σ'' n (putO [.lit (.bool false), .lit (.string ⟨#[]⟩), .lit (.int .u8 0), .lit (.string ⟨#[]⟩), .lit (.bool false), .sl [] .full, .sl [] .full, .sl [] .full, .sl [] .full] 7 (some o1)) (putO kindZ 7 (some o1)) := fun σ'' n => FrzL.putO (show FrzL σ'' n _ kindZ from (.cons (.lit _) (.cons (.lit _) (.cons (.lit _) (.cons (.lit _) (.cons (.lit _) (.cons (.nil _) (.cons (.nil _) (.cons (.nil _) (.cons (.nil _) .nil)))))))))) hq1
   have hzR : ∀ σ'' n, FrzL σ'' n (putO [.lit (.bool false), .lit (.string ⟨#[]⟩), .lit (.int .u8 0), .lit (.string ⟨#[]⟩), .lit (.bool false), .sl [] .full, .sl [] .full, .sl [] .full, .sl [] .full] 0 (some o2)) (putO kindZ 0 (some o2)) := fun σ'' n => FrzL.putO (show FrzL σ'' n _ kindZ from (.cons (.lit _) (.cons (.lit _) (.cons (.lit _) (.cons (.lit _) (.cons (.lit _) (.cons (.nil _) (.cons (.nil _) (.cons (.nil _) (.cons (.nil _) .nil)))))))))) hq2
   have hvP : (putO [.lit (.bool false), .lit (.string ⟨#[]⟩), .lit (.int .u8 0), .lit (.string ⟨#[]⟩), .lit (.bool false), .sl [] .full, .sl [] .full, .sl [] .full, .sl [] .full] 7 (some o1)).length = 9 := by rw [putO_len]; rfl
   have hvR : (putO [.lit (.bool false), .lit (.string ⟨#[]⟩), .lit (.int .u8 0), .lit (.string ⟨#[]⟩), .lit (.bool false), .sl [] .full, .sl [] .full, .sl [] .full, .sl [] .full] 0 (some o2)).length = 9 := by rw [putO_len]; rfl
   rw [show (partsS [skipS, rd N .params, rd N .kind] t).2 = (rd (N + 1) .kind t).2 by rw [hrd]] at hxE
   generalize putO [.lit (.bool false), .lit (.string ⟨#[]⟩), .lit (.int .u8 0), .lit (.string ⟨#[]⟩), .lit (.bool false), .sl [] .full, .sl [] .full, .sl [] .full, .sl [] .full] 7 (some o1) = vP at *
   generalize putO [.lit (.bool false), .lit (.string ⟨#[]⟩), .lit (.int .u8 0), .lit (.string ⟨#[]⟩), .lit (.bool false), .sl [] .full, .sl [] .full, .sl [] .full, .sl [] .full] 0 (some o2) = vR at *
   generalize putO kindZ 0 (some o2) = wR at *
   simp (maxDischargeDepth := 16) [symB, List.length_set, retK, andThen, hlen]
   refine ⟨drawOk_sim [σ.length] [.reads 0, .pure, .calls 1 fun _ => true, .calls 1 fun _ => true, .pure, .any] (.cons (by simp) .nil) ?_ (by kernel_rfl), ?_⟩
   · refine .cons (.reads 0 _ rfl) (.cons .pure (.cons (.keeps fun x hx => ?_) (.cons (.keeps fun x hx => ?_) (.cons .pure (.cons (.any _) .nil)))))
     · simp at hx; subst hx; exact ⟨by simp [xi1], by omega⟩
     · simp at hx; subst hx; exact ⟨by simp [xi2], by omega⟩
   refine hK _ _ ?_; clear hK K
   have hsP : ∀ o, (σE.set (σ.length + 1) o)[σ.length + 1]? = some o := fun o => List.getElem?_set_self (lt_of_obj hpE)
   have hxs : ∀ o, Ext (setF σ fid (rd (N + 1) .kind t).2) (σE.set (σ.length + 1) o) := fun o => hxE.set (by rw [setF_len]; omega)
   have htP : List.take 9 vP = vP := List.take_of_length_le (by omega)
   have htR : List.take 9 vR = vR := List.take_of_length_le (by omega)
   refine CW.seqK fun K hK => CW.region ?_
   simp (maxDischargeDepth := 16) [symB, List.length_set, andThen, hlen, h1, h2, h3, hpE, hrE, hvP, hvR, hsP, htR, List.set_set]
   refine hK _ _ ?_; clear hK K
   have htpR := take_put hvR [.lit (.bool false), .lit (.string ⟨#[]⟩), .lit (.int .u8 0), .lit (.string ⟨#[]⟩), .lit (.bool false), .sl [] .full, .sl [] .full, .sl [] .full, .sl [] .full] rfl
   simp only [htpR]
   have hz : ∀ σ'' n, FrzL σ'' n ((vP.set 0 (.lit (.bool true))).set 8 (.sl [vR] .full)) (rd (N + 1) .kind t).1 := fun σ'' n => by
    rw [hrd]
    exact ((hzP _ _).set (.lit _)).set (.row1 (hzR _ _) _)
   have hvl : ((vP.set 0 (.lit (.bool true))).set 8 (.sl [vR] .full)).length = 9 := by simp [hvP]
   generalize (vP.set 0 (.lit (.bool true))).set 8 (.sl [vR] .full) = v at *
   have hpF := hsP (.cells v 117)
   have hxF := hxs (.cells v 117)
   clear hsP hxs
   generalize σE.set (σ.length + 1) (.cells v 117) = σF at *
   have h1' : True := trivial
   have htk : List.take 9 v = v := List.take_of_length_le (by omega)
   have hxs : ∀ o, Ext _ (σF.set (σ.length + 1) o) := fun o => hxF.set (by rw [setF_len]; omega)
   have hsr : ∀ o, (σF.set (σ.length + 1) o)[σ.length + 1]? = some o := fun o => List.getElem?_set_self (lt_of_obj hpF)
   have hpv : putCells v 0 v = v := by have := putCells_app v v [] rfl; simpa using this
   refine CW.seqK fun K hK => CW.region ?_
   simp (maxDischargeDepth := 16) [symB, List.length_set, andThen, hlen, h1, h2, hpF, hvl, htk, hpv]
   refine hK _ _ ?_; clear hK K
   refine CW.ret (hR0 _ _ _ ⟨.agg v, ?_, fgt_of (hxs _) hc (hz _ _).agg⟩)
   simp [resultsA, omap, res_tmp, res_cell, slot_eq, slot_ne, hlen, h2, hsr, partA, aggT, hvl, htk]
 · simp (maxDischargeDepth := 16) [symB, List.length_set, retK, andThen, hlen, strA, htl, ht1, e1]
   refine hKB _ _ ?_; clear hKB KB
   refine CW.cond (t := true) (by simp [evx_tmp, slot_eq, slot_ne, hlen, e1]) ?_
   refine CW.seqK fun K hK => CW.draw (by kernel_rfl) ?_
   simp (maxDischargeDepth := 16) [symB, List.length_set, andThen, hlen, h1, h2, hb0]
   refine (into_name_ev N (σ.length + 1) 1 (fidOf .name) σh).mono ?_
   rintro r σi0 ⟨Ta0, Tb0, rfl, hi0⟩
   have hli0 : σi0.length = σh.length + 2 := by rw [hi0]; simp
   have xi0 : extB σh σi0 = true := extB_of ⟨_, hi0⟩
   have hei0 : Ext σh σi0 := ⟨_, hi0⟩
   have ga0 : σi0[σh.length]? = some (.cells [.ptr (σ.length + 1) 1] Ta0) := by rw [hi0]; exact get_new _ _ _
   have gb0 : σi0[σh.length + 1]? = some (.cells [.fn (.func (fidOf .name)) [] []] Tb0) := by rw [hi0]; exact get_new1 _ _ _ _
   have hei0s : Ext σh σi0 := hei0
   have hpi0 := hei0s.get hp
   have hbi0 := hei0s.get hb0
   simp (maxDischargeDepth := 16) [symB, List.length_set, retK, andThen, hlen, h1, h2, hb0, hpi0, hbi0]
   refine (into_term_ev N (σ.length + 1) 2 (fidOf .term) σi0).mono ?_
   rintro r σi1 ⟨Ta1, Tb1, rfl, hi1⟩
   have hli1 : σi1.length = σi0.length + 2 := by rw [hi1]; simp
   have xi1 : extB σi0 σi1 = true := extB_of ⟨_, hi1⟩
   have hei1 : Ext σi0 σi1 := ⟨_, hi1⟩
   have ga1 : σi1[σi0.length]? = some (.cells [.ptr (σ.length + 1) 2] Ta1) := by rw [hi1]; exact get_new _ _ _
   have gb1 : σi1[σi0.length + 1]? = some (.cells [.fn (.func (fidOf .term)) [] []] Tb1) := by rw [hi1]; exact get_new1 _ _ _ _
   have hei1s : Ext σh σi1 := hei0s.trans hei1
   have hpi1 := hei1s.get hp
   have hbi1 := hei1s.get hb0
   simp (maxDischargeDepth := 16) [symB, List.length_set, retK, andThen, hlen, h1, h2, hb0, hpi1, hbi1]
   rw [← nodeA_eq]
   have hneP : σ.length + 1 ≠ fid := by omega
   refine (parts_ev N [.into .name (σ.length + 1) 1, .into .term (σ.length + 1) 2] (vs := [.fn (.func (clos .name)) [] [.ptr (σh.length + 1) 0, .ptr σh.length 0], .fn (.func (clos .term)) [] [.ptr (σi0.length + 1) 0, .ptr σi0.length 0]]) (hi := σh.length) rfl ?_ (fineT_l hf) ?_ (hei1s.get hc0) (fineT_k hf) (by simp)).mono ?_
   · intro k g v hg hv
     match k with
     | 0 => cases hg; cases hv; exact ⟨rfl, _, _, _, _, _, _, rfl, by omega, by omega, by omega, hneP, (hei1.get gb0), (hei1.get ga0), hpi1, by simp [lenR]⟩
     | 1 => cases hg; cases hv; exact ⟨rfl, _, _, _, _, _, _, rfl, by omega, by omega, by omega, hneP, gb1, ga1, hpi1, by simp [lenR]⟩
     | k + 2 => simp at hg
   · intro u hu g hg
     have := size_kid hu
     simp at hg
     rcases hg with rfl | rfl <;> (simp [rankT, rank] at hn ⊢; omega)
   rintro r σE ⟨rfl, hxp⟩
   obtain ⟨o0, o1, ho⟩ := two_of (partsS_len (fs := [rd N .name, rd N .term]) (t := t))
   have hq0 : okO (some o0) := by have := okO_parts (N := N) (gs := [.into .name (σ.length + 1) 1, .into .term (σ.length + 1) 2]) (t := t) (k := 0); rwa [show (partsS (List.map (rdT N) [.into .name (σ.length + 1) 1, .into .term (σ.length + 1) 2]) t).1 = [o0, o1] from ho] at this
   have hq1 : okO (some o1) := by have := okO_parts (N := N) (gs := [.into .name (σ.length + 1) 1, .into .term (σ.length + 1) 2]) (t := t) (k := 1); rwa [show (partsS (List.map (rdT N) [.into .name (σ.length + 1) 1, .into .term (σ.length + 1) 2]) t).1 = [o0, o1] from ho] at this
   have hP : partsF N fid [.into .name (σ.length + 1) 1, .into .term (σ.length + 1) 2] t σi1 = putT (putT (setF σi1 fid (partsS [rd N .name, rd N .term] t).2) (.into .name (σ.length + 1) 1) o0) (.into .term (σ.length + 1) 2) o1 := by
    rw [partsF_eq _ _ _ _ _ (fun g tg off hm => by simp at hm; rcases hm with ⟨_, rfl, _⟩ | ⟨_, rfl, _⟩ <;> assumption)]
    show putTs _ _ (partsS [rd N .name, rd N .term] t).1 = _
    rw [ho]; simp only [putTs, putT_skip]; rfl
   have hpE := hxp.get (by rw [hP]; exact (putT_get (putT_get ((setF_ne _ hneP).trans hpi1))))
   have hxE : Ext (setF σ fid (partsS [rd N .name, rd N .term] t).2) σE := by
    rw [hP] at hxp
    exact (putT_ext (putT_ext (setF_ext _ (hx0.trans hei1s) hfl) (by rw [setF_len]; omega)) (by rw [setF_len]; omega)).trans hxp
   have hrd : rd (N + 1) .kind t = (putO (putO kindZ 1 (some o0)) 2 (some o1), (partsS [rd N .name, rd N .term] t).2) := by
    show (if headS t = [45, 62] then _ else _) = _
    rw [if_neg e1]
    show (putO (putO kindZ 1 (partsS [rd N .name, rd N .term] t).1[0]?) 2 (partsS [rd N .name, rd N .term] t).1[1]?, _) = _
    rw [ho]; rfl
   have hz : ∀ σ'' n, FrzL σ'' n (putO (putO [.lit (.bool false), .lit (.string ⟨#[]⟩), .lit (.int .u8 0), .lit (.string ⟨#[]⟩), .lit (.bool false), .sl [] .full, .sl [] .full, .sl [] .full, .sl [] .full] 1 (some o0)) 2 (some o1)) (rd (N + 1) .kind t).1 := fun σ'' n => by
    rw [hrd]
    exact FrzL.putO (FrzL.putO (show FrzL σ'' n _ kindZ from (.cons (.lit _) (.cons (.lit _) (.cons (.lit _) (.cons (.lit _) (.cons (.lit _) (.cons (.nil _) (.cons (.nil _) (.cons (.nil _) (.cons (.nil _) .nil)))))))))) hq0) hq1
   have hvl : (putO (putO [.lit (.bool false), .lit (.string ⟨#[]⟩), .lit (.int .u8 0), .lit (.string ⟨#[]⟩), .lit (.bool false), .sl [] .full, .sl [] .full, .sl [] .full, .sl [] .full] 1 (some o0)) 2 (some o1)).length = 9 := by rw [putO_len, putO_len]; rfl
   rw [show (partsS [rd N .name, rd N .term] t).2 = (rd (N + 1) .kind t).2 by rw [hrd]] at hxE
   generalize putO (putO [.lit (.bool false), .lit (.string ⟨#[]⟩), .lit (.int .u8 0), .lit (.string ⟨#[]⟩), .lit (.bool false), .sl [] .full, .sl [] .full, .sl [] .full, .sl [] .full] 1 (some o0)) 2 (some o1) = v at *
   simp (maxDischargeDepth := 16) [symB, List.length_set, retK, andThen, hlen]
   refine ⟨drawOk_sim [σ.length] [.reads 0, .pure, .calls 1 fun _ => true, .pure, .calls 1 fun _ => true, .pure, .any] (.cons (by simp) .nil) ?_ (by kernel_rfl), ?_⟩
   · refine .cons (.reads 0 _ rfl) (.cons .pure (.cons (.keeps fun x hx => ?_) (.cons .pure (.cons (.keeps fun x hx => ?_) (.cons .pure (.cons (.any _) .nil))))))
     · simp at hx; subst hx; exact ⟨by simp [xi0], by omega⟩
     · simp at hx; subst hx; exact ⟨by simp [xi1], by omega⟩
   refine hK _ _ ?_; clear hK K
   have htk : List.take 9 v = v := List.take_of_length_le (by omega)
   have hxs : ∀ o, Ext _ (σE.set (σ.length + 1) o) := fun o => hxE.set (by rw [setF_len]; omega)
   have hsr : ∀ o, (σE.set (σ.length + 1) o)[σ.length + 1]? = some o := fun o => List.getElem?_set_self (lt_of_obj hpE)
   have hpv : putCells v 0 v = v := by have := putCells_app v v [] rfl; simpa using this
   refine CW.seqK fun K hK => CW.region ?_
   simp (maxDischargeDepth := 16) [symB, List.length_set, andThen, hlen, h1, h2, hpE, hvl, htk, hpv]
   refine hK _ _ ?_; clear hK K
   refine CW.ret (hR0 _ _ _ ⟨.agg v, ?_, fgt_of (hxs _) hc (hz _ _).agg⟩)
   simp [resultsA, omap, res_tmp, res_cell, slot_eq, slot_ne, hlen, h2, hsr, partA, aggT, hvl, htk]
end Go.Proofs.YtkkblmdgedmdfaaGreatDoor
