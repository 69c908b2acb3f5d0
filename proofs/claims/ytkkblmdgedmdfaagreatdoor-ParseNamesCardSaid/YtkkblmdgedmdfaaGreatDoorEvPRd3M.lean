/-
 EV: parse: con, arm, let (printed by gen_rd3.py).
-/
import Derived.Test.YtkkblmdgedmdfaaGreatDoorEvPRest2
import Derived.Test.YtkkblmdgedmdfaaGreatDoorEvPRd2M
import Derived.Test.YtkkblmdgedmdfaaGreatDoorEvPrimsM
namespace Go.Proofs.YtkkblmdgedmdfaaGreatDoor
set_option linter.unusedSimpArgs false
set_option linter.unusedVariables false
section
open Go.RowKit
set_option maxRecDepth 100000 in
set_option maxHeartbeats 2000000 in
theorem con_rd (N : Nat) : RdOk N .con := by
 intro t fid σ hf hn hc
 show JC _ _ 41 _ _ _
 refine JC.startW (fn := Tryz.f41) (M := []) rfl rfl rfl (by simp) fun tm hlen hs => ?_
 have h0 := hs 0 _ rfl
 clear hs
 rw [nodeA_eq] at h0
 simp at hlen
 refine CW.hide fun R0 hR0 => ?_
 have hfl := lt_of_obj hc
 refine CW.seqK fun K hK => CW.region ?_
 simp (maxDischargeDepth := 16) [symB, List.length_set, andThen, hlen, h0]
 refine hK _ _ ?_; clear hK K
 refine CW.reset2 (fun tm σ1 => tm.length = 25 ∧ slot tm 1 = .ptr σ.length 0 ∧ slot tm 2 = .ptr (σ.length + 1) 0 ∧ σ1 = σ ++ [nodeO t fid, .cells [.lit (.string ⟨#[]⟩), .sl [] .full] 96]) ⟨by simp [hlen], by simp [slot_eq, slot_ne, hlen], by simp [slot_eq, slot_ne, hlen], rfl⟩ ?_
 clear h0 hlen tm
 rintro tm σ0 ⟨hlen, h1, h2, hσ0⟩
 have hb0 : σ0[σ.length]? = some (.cells [.lit (.string (bs t.word)), .sl (rowsOf t.kids) .no, .lit (.bool t.row), .lit (.int .i64 t.at_), .ptr fid 0] 57) := by rw [hσ0]; exact get_new _ _ _
 have hp : σ0[σ.length + 1]? = some (.cells [.lit (.string ⟨#[]⟩), .sl [] .full] 96) := by rw [hσ0]; exact get_new1 _ _ _ _
 have hx0 : Ext σ σ0 := by rw [hσ0]; exact ⟨_, rfl⟩
 have hc0 : σ0[fid]? = some cleanO := by rw [hσ0]; exact get_app hc
 have hl0 : σ0.length = σ.length + 2 := by rw [hσ0]; simp
 clear hσ0
 have hkl : (rowsOf t.kids).length = t.kids.length := rowsOf_length _
 refine CW.seqK fun KA hKA => ?_
 refine CW.seqK fun KB hKB => CW.region ?_
 have bad : (t.row && decide (0 < t.kids.length)) = false → ∀ tm : List AV, tm.length = 25 → slot tm 1 = .ptr σ.length 0 → slot tm 2 = .ptr (σ.length + 1) 0 → slot tm 13 = .lit (.bool true) → KB tm σ0 := by
  intro hrow0 tm hlen h1 h2 hT
  refine hKB _ _ ?_; clear hKB KB
  refine CW.cond (t := true) (by simp [evx_tmp, slot_eq, slot_ne, hlen, hT]) ?_
  have hrd : rd (N + 1) .con t = (conZ, some t.at_) := by
   show (if _ then _ else _) = _
   rw [hrow0]; rfl
  have hne : σ.length + 1 ≠ fid := by omega
  refine CW.seqK fun KB hKB => CW.region ?_
  simp (maxDischargeDepth := 16) [symB, List.length_set, andThen, outOf, hlen, h1, h2, hb0]
  rw [← nodeA_eq]
  refine (fault_ev N t fid σ0 hc0).mono ?_
  rintro r σ2 ⟨rfl, hx2⟩
  have hp2 := hx2.get ((setF_ne _ hne).trans hp)
  simp (maxDischargeDepth := 16) [symB, List.length_set, retK, andThen, outOf, hlen, h1, h2]
  refine hKB _ _ ?_; clear hKB KB
  have hz : ∀ σ'' k, FrzL σ'' k [.lit (.string ⟨#[]⟩), .sl [] .full] (rd (N + 1) .con t).1 := fun _ _ => by rw [hrd]; exact (show FrzL _ _ [.lit (.string ⟨#[]⟩), .sl [] .full] (conZ) from (.cons (.lit _) (.cons (.nil _) .nil)))
  have hxv : Ext (setF σ fid (rd (N + 1) .con t).2) σ2 := by rw [hrd]; exact (setF_ext _ hx0 hfl).trans hx2
  have hvl : ([.lit (.string ⟨#[]⟩), .sl [] .full] : List AV).length = 2 := rfl
  have hpv0 := hp2
  generalize ([.lit (.string ⟨#[]⟩), .sl [] .full] : List AV) = v at *
  have htk : List.take 2 v = v := List.take_of_length_le (by omega)
  have hxs : ∀ o, Ext _ (σ2.set (σ.length + 1) o) := fun o => hxv.set (by rw [setF_len]; omega)
  have hsr : ∀ o, (σ2.set (σ.length + 1) o)[σ.length + 1]? = some o := fun o => List.getElem?_set_self (lt_of_obj hpv0)
  have hpv : putCells v 0 v = v := by have := putCells_app v v [] rfl; simpa using this
  refine CW.seqK fun K hK => CW.region ?_
  simp (maxDischargeDepth := 16) [symB, List.length_set, andThen, hlen, h2, hpv0, hvl, htk, hpv]
  refine hK _ _ ?_; clear hK K
  refine CW.ret (hR0 _ _ _ ⟨.agg v, ?_, fgt_of (hxs _) hc (hz _ _).agg⟩)
  simp [resultsA, omap, res_tmp, res_cell, slot_eq, slot_ne, hlen, h2, hsr, partA, aggT, hvl, htk]
 have good : (t.row && decide (0 < t.kids.length)) = true → ∀ tm : List AV, tm.length = 25 → slot tm 1 = .ptr σ.length 0 → slot tm 2 = .ptr (σ.length + 1) 0 → slot tm 13 = .lit (.bool false) → KB tm σ0 := by
  intro hrow1 tm hlen h1 h2 hT
  refine hKB _ _ ?_; clear bad hKB KB
  refine CW.cond (t := false) (by simp [evx_tmp, slot_eq, slot_ne, hlen, hT]) ?_
  refine CW.skip ?_
  simp only [andThen]
  refine hKA _ _ ?_; clear hKA KA
  have hkp : 0 < t.kids.length := by simp at hrow1; exact hrow1.2
  have hkl1 : 0 < t.kids.length := by omega
  have hget : t.kids[0]? = some t.kids[0] := List.getElem?_eq_getElem hkl1
  have hmem := List.getElem_mem hkl1
  have hka : kidAt t 0 = t.kids[0] := by unfold kidAt; rw [List.getD_eq_getElem?_getD, hget]; rfl
  have hrd : rd (N + 1) .con t = ((rd N .name t.kids[0]).1 ++ [rowsA' (restO (rd N .name t.kids[0]).2 (rd N .name) (t.kids.drop 1)).1], (restO (rd N .name t.kids[0]).2 (rd N .name) (t.kids.drop 1)).2) := by
   show (if _ then _ else _) = _
   rw [if_pos hrow1, hka]
  generalize t.kids[0] = u at *
  refine CW.seqK fun KB hKB => CW.region ?_
  simp (maxDischargeDepth := 16) [symB, List.length_set, andThen, outOf, hlen, h1, h2, hb0]
  rw [← nodeA_eq]
  refine (kid_ev N hget (fineT_k hf)).mono ?_
  rintro r σ2 ⟨rfl, hx2⟩
  have hp2 := hx2.get hp
  have hb2 := hx2.get hb0
  have hc2 := hx2.get hc0
  have hx02 := hx0.trans hx2
  have hl2 := hx2.len
  have hsz := size_kid hmem
  simp (maxDischargeDepth := 16) [symB, List.length_set, retK, andThen, outOf, hlen, h1, h2, hp2]
  refine rd_ev (N := N) .name (fineL_mem (fineT_l hf) hmem) (by simp [rank] at hn ⊢; omega) hc2 ?_
  have hrk : rank .name ≤ N := by simp [rank] at hn ⊢; omega
  have hvc := (valR_cells (t := u) hrk).1
  have hvt := (valR_cells (t := u) hrk).2
  have hvl := rd_len N .name u hrk
  have hok := rd_ok N .name u
  simp only [lenR] at hvl
  have hne : σ.length + 1 ≠ fid := by omega
  have hne0 : σ.length ≠ fid := by omega
  generalize (rd N .name u).1 = av at *
  generalize (rd N .name u).2 = ao at *
  have hr4 := (setF_ne ao hne).trans hp2
  have hb4 := (setF_ne ao hne0).trans hb2
  have hx4 := setF_ext ao hx02 hfl
  generalize setF σ2 fid ao = σ4 at *
  have hs4 : ∀ o, (σ4.set (σ.length + 1) o)[σ.length + 1]? = some o := fun o => List.getElem?_set_self (lt_of_obj hr4)
  have hxs4 : ∀ o, Ext (setF σ fid ao) (σ4.set (σ.length + 1) o) := fun o => hx4.set (by rw [setF_len]; omega)
  have hbs4 : ∀ o, (σ4.set (σ.length + 1) o)[σ.length]? = _ := fun o => (List.getElem?_set_ne (by omega)).trans hb4
  generalize valR .name av = vv at *
  have hav : ∃ c, av = [c] := by match av, hvl with | [c], _ => exact ⟨c, rfl⟩
  refine Classical.byContradiction fun hno => ?_
  obtain ⟨c, rfl⟩ := hav
  have hcz : ∀ σ'' k, Frz σ'' k c c := fun _ _ => Frz.still (hok c (by simp)).2.1
  refine hno ?_; clear hno
  simp (maxDischargeDepth := 16) [symB, List.length_set, retK, andThen, outOf, hlen, h1, h2, hvc, hvt, hvl, hr4, hs4, List.set_set]
  refine hKB _ _ ?_; clear hKB KB
  have hzW : ∀ σ'' k, FrzL σ'' k ([c, .sl [] .full]) ([c, nilA]) := fun _ _ => (show FrzL _ _ [c, .sl [] .full] ([c, nilA]) from (.cons (hcz _ _) (.cons (.nil _) .nil)))
  have hWl : ([c, .sl [] .full]).length = 2 := by first | rfl | (rw [putCells_len]; rfl)
  generalize [c, .sl [] .full] = W at *
  have hb5 := hbs4 (.cells W 96)
  have hp5 := hs4 (.cells W 96)
  have hx5 := hxs4 (.cells W 96)
  clear hbs4 hs4 hxs4 hr4 hb4 hx4
  generalize σ4.set (σ.length + 1) (.cells W 96) = σ5 at *
  refine CW.seqK fun KC hKC => CW.region ?_
  simp (maxDischargeDepth := 16) [symB, List.length_set, andThen, outOf, hlen, h1, h2, hb5]
  rw [← nodeA_eq]
  refine (rest_name_any N .name rfl (src := 1) ao hx5 (fineT_l hf) (fun u hu => by have := size_kid hu; simp [rank] at hn ⊢; omega) hc (fineT_k hf) (by omega)).mono ?_
  rintro r σ6 ⟨tok, rfl, hx6, hy6⟩
  have hp6 := hy6.get ((setF_ne _ hne).trans hp5)
  have hs6 : ∀ o, (σ6.set (σ.length + 1) o)[σ.length + 1]? = some o := fun o => List.getElem?_set_self (lt_of_obj hp6)
  have hxs6 : ∀ o, Ext _ (σ6.set (σ.length + 1) o) := fun o => hx6.set (by rw [setF_len]; omega)
  have hokq : okR (restO ao (rd N .name) (t.kids.drop 1)).1 := okR_restO fun u => rd_ok N .name u
  generalize restO ao (rd N .name) (t.kids.drop 1) = q at *
  simp (maxDischargeDepth := 16) [symB, List.length_set, retK, andThen, outOf, hlen, h1, h2, hp6, hs6, hWl]
  refine hKC _ _ ?_; clear hKC KC
  have hz : ∀ σ'' k, FrzL σ'' k (W.set 1 (.sl q.1 tok)) (rd (N + 1) .con t).1 := fun _ _ => by rw [hrd]; exact (hzW _ _).set (.okR hokq tok)
  have hxv : Ext (setF σ fid (rd (N + 1) .con t).2) (σ6.set (σ.length + 1) (.cells (W.set 1 (.sl q.1 tok)) 96)) := by rw [hrd]; exact hxs6 _
  have hpv0 := hs6 (.cells (W.set 1 (.sl q.1 tok)) 96)
  have hvl : (W.set 1 (.sl q.1 tok)).length = 2 := by simp [hWl]
  clear hs6 hxs6
  generalize W.set 1 (.sl q.1 tok) = v at *
  generalize σ6.set (σ.length + 1) (.cells v 96) = σ' at *
  have htk : List.take 2 v = v := List.take_of_length_le (by omega)
  have hxs : ∀ o, Ext _ (σ'.set (σ.length + 1) o) := fun o => hxv.set (by rw [setF_len]; omega)
  have hsr : ∀ o, (σ'.set (σ.length + 1) o)[σ.length + 1]? = some o := fun o => List.getElem?_set_self (lt_of_obj hpv0)
  have hpv : putCells v 0 v = v := by have := putCells_app v v [] rfl; simpa using this
  refine CW.seqK fun K hK => CW.region ?_
  simp (maxDischargeDepth := 16) [symB, List.length_set, andThen, hlen, h2, hpv0, hvl, htk, hpv]
  refine hK _ _ ?_; clear hK K
  refine CW.ret (hR0 _ _ _ ⟨.agg v, ?_, fgt_of (hxs _) hc (hz _ _).agg⟩)
  simp [resultsA, omap, res_tmp, res_cell, slot_eq, slot_ne, hlen, h2, hsr, partA, aggT, hvl, htk]
 cases hrow : t.row with
 | false =>
  rw [hrow] at hb0
  simp (maxDischargeDepth := 16) [symB, List.length_set, andThen, hlen, h1, h2, hb0]
  exact bad (by rw [hrow]; rfl) _ (by simp [hlen]) (by simp [slot_ne, h1]) (by simp [slot_ne, h2]) (by simp [slot_eq, slot_ne, hlen])
 | true =>
  rw [hrow] at hb0
  rcases Nat.eq_zero_or_pos t.kids.length with hk | hk
  · have hk' : (t.kids.length : Int) = 0 := by omega
    simp (maxDischargeDepth := 16) [symB, List.length_set, andThen, hlen, h1, h2, hb0, hkl, hk, hk']
    exact bad (by rw [hk]; simp) _ (by simp [hlen]) (by simp [slot_ne, h1]) (by simp [slot_ne, h2]) (by simp [slot_eq, slot_ne, hlen, hk, hk'])
  · have hk' : ¬ (t.kids.length : Int) = 0 := by omega
    have hk2 : ¬ t.kids.length = 0 := by omega
    simp (maxDischargeDepth := 16) [symB, List.length_set, andThen, hlen, h1, h2, hb0, hkl, hk2, hk']
    exact good (by rw [hrow]; simp; omega) _ (by simp [hlen]) (by simp [slot_ne, h1]) (by simp [slot_ne, h2]) (by simp [slot_eq, slot_ne, hlen, hk2, hk'])
set_option maxRecDepth 100000 in
set_option maxHeartbeats 2000000 in
theorem arm_rd (N : Nat) : RdOk N .arm := by
 intro t fid σ hf hn hc
 show JC _ _ 139 _ _ _
 refine JC.startW (fn := Tryz.f139) (M := [124]) rfl rfl rfl (by simp) fun tm hlen hs => ?_
 have h0 := hs 0 _ rfl
 clear hs
 rw [nodeA_eq] at h0
 simp at hlen
 refine CW.hide fun R0 hR0 => ?_
 have hfl := lt_of_obj hc
 refine CW.seqK fun K hK => CW.region ?_
 simp (maxDischargeDepth := 16) [symB, List.length_set, andThen, hlen, h0]
 refine hK _ _ ?_; clear hK K
 refine CW.seqK fun K hK => CW.region ?_
 simp (maxDischargeDepth := 16) [symB, List.length_set, andThen, hlen]
 refine hK _ _ ?_; clear hK K
 refine CW.reset2 (fun tm σ1 => tm.length = 18 ∧ slot tm 1 = .ptr σ.length 0 ∧ slot tm 2 = .ptr (σ.length + 1) 0 ∧ slot tm 3 = .ptr (σ.length + 3) 0 ∧ σ1 = σ ++ [nodeO t fid, .cells [.lit (.string ⟨#[]⟩), .sl [] .full, .sl [] .full] 249, .cells [.lit (.int .u8 0), .lit (.string ⟨#[]⟩), .sl [] .full, .sl [] .full, .lit (.int .u8 0), .lit (.string ⟨#[]⟩), .lit (.bool false), .sl [] .full, .lit (.bool false), .sl [] .full, .sl [] .full] 126, .cells [.lit (.string ⟨#[]⟩), .sl [] .full, .asl (σ.length + 2) 0 1 11] 249]) ⟨by simp [hlen], by simp [slot_eq, slot_ne, hlen], by simp [slot_eq, slot_ne, hlen], by simp [slot_eq, slot_ne, hlen], by simp [nodeO]⟩ ?_
 clear h0 hlen tm
 rintro tm σ0 ⟨hlen, h1, h2, h3, hσ0⟩
 have hb0 : σ0[σ.length]? = some (.cells [.lit (.string (bs t.word)), .sl (rowsOf t.kids) .no, .lit (.bool t.row), .lit (.int .i64 t.at_), .ptr fid 0] 57) := by rw [hσ0]; exact get_new _ _ _
 have hp : σ0[σ.length + 1]? = some (.cells [.lit (.string ⟨#[]⟩), .sl [] .full, .sl [] .full] 249) := by rw [hσ0]; exact get_new1 _ _ _ _
 have hs : σ0[σ.length + 2]? = some (.cells [.lit (.int .u8 0), .lit (.string ⟨#[]⟩), .sl [] .full, .sl [] .full, .lit (.int .u8 0), .lit (.string ⟨#[]⟩), .lit (.bool false), .sl [] .full, .lit (.bool false), .sl [] .full, .sl [] .full] 126) := by rw [hσ0, List.getElem?_append_right (by omega), show σ.length + 2 - σ.length = 2 by omega]; rfl
 have ha : σ0[σ.length + 3]? = some (.cells [.lit (.string ⟨#[]⟩), .sl [] .full, .asl (σ.length + 2) 0 1 11] 249) := by rw [hσ0, List.getElem?_append_right (by omega), show σ.length + 3 - σ.length = 3 by omega]; rfl
 have hx0 : Ext σ σ0 := by rw [hσ0]; exact ⟨_, rfl⟩
 have hc0 : σ0[fid]? = some cleanO := by rw [hσ0]; exact get_app hc
 have hl0 : σ0.length = σ.length + 4 := by rw [hσ0]; simp
 clear hσ0
 refine CW.seqK fun K hK => CW.draw (by kernel_rfl) ?_
 simp (maxDischargeDepth := 16) [symB, List.length_set, andThen, hlen, h1, h3, hb0, ha, hs]
 refine (into_name_ev N (σ.length + 3) 0 (fidOf .name) σ0).mono ?_
 rintro r σi0 ⟨Ta0, Tb0, rfl, hi0⟩
 have hli0 : σi0.length = σ0.length + 2 := by rw [hi0]; simp
 have xi0 : extB σ0 σi0 = true := extB_of ⟨_, hi0⟩
 have hei0 : Ext σ0 σi0 := ⟨_, hi0⟩
 have ga0 : σi0[σ0.length]? = some (.cells [.ptr (σ.length + 3) 0] Ta0) := by rw [hi0]; exact get_new _ _ _
 have gb0 : σi0[σ0.length + 1]? = some (.cells [.fn (.func (fidOf .name)) [] []] Tb0) := by rw [hi0]; exact get_new1 _ _ _ _
 have hei0s : Ext σ0 σi0 := hei0
 have hai0 := hei0s.get ha
 have hsi0 := hei0s.get hs
 have hbi0 := hei0s.get hb0
 simp (maxDischargeDepth := 16) [symB, List.length_set, retK, andThen, hlen, h1, h3, hb0, ha, hs, hai0, hsi0, hbi0]
 refine (into_names_ev N (σ.length + 3) 1 (fidOf .names) σi0).mono ?_
 rintro r σi1 ⟨Ta1, Tb1, rfl, hi1⟩
 have hli1 : σi1.length = σi0.length + 2 := by rw [hi1]; simp
 have xi1 : extB σi0 σi1 = true := extB_of ⟨_, hi1⟩
 have hei1 : Ext σi0 σi1 := ⟨_, hi1⟩
 have ga1 : σi1[σi0.length]? = some (.cells [.ptr (σ.length + 3) 1] Ta1) := by rw [hi1]; exact get_new _ _ _
 have gb1 : σi1[σi0.length + 1]? = some (.cells [.fn (.func (fidOf .names)) [] []] Tb1) := by rw [hi1]; exact get_new1 _ _ _ _
 have hei1s : Ext σ0 σi1 := hei0s.trans hei1
 have hai1 := hei1s.get ha
 have hsi1 := hei1s.get hs
 have hbi1 := hei1s.get hb0
 simp (maxDischargeDepth := 16) [symB, List.length_set, retK, andThen, hlen, h1, h3, hb0, ha, hs, hai1, hsi1, hbi1]
 refine (into_body_ev N (σ.length + 2) 0 (fidOf .body) σi1).mono ?_
 rintro r σi2 ⟨Ta2, Tb2, rfl, hi2⟩
 have hli2 : σi2.length = σi1.length + 2 := by rw [hi2]; simp
 have xi2 : extB σi1 σi2 = true := extB_of ⟨_, hi2⟩
 have hei2 : Ext σi1 σi2 := ⟨_, hi2⟩
 have ga2 : σi2[σi1.length]? = some (.cells [.ptr (σ.length + 2) 0] Ta2) := by rw [hi2]; exact get_new _ _ _
 have gb2 : σi2[σi1.length + 1]? = some (.cells [.fn (.func (fidOf .body)) [] []] Tb2) := by rw [hi2]; exact get_new1 _ _ _ _
 have hei2s : Ext σ0 σi2 := hei1s.trans hei2
 have hai2 := hei2s.get ha
 have hsi2 := hei2s.get hs
 have hbi2 := hei2s.get hb0
 simp (maxDischargeDepth := 16) [symB, List.length_set, retK, andThen, hlen, h1, h3, hb0, ha, hs, hai2, hsi2, hbi2]
 rw [← nodeA_eq]
 have hneA : σ.length + 3 ≠ fid := by omega
 have hneS : σ.length + 2 ≠ fid := by omega
 refine (parts_ev N [.into .name (σ.length + 3) 0, .into .names (σ.length + 3) 1, .into .body (σ.length + 2) 0] (vs := [.fn (.func (clos .name)) [] [.ptr (σ0.length + 1) 0, .ptr σ0.length 0], .fn (.func (clos .names)) [] [.ptr (σi0.length + 1) 0, .ptr σi0.length 0], .fn (.func (clos .body)) [] [.ptr (σi1.length + 1) 0, .ptr σi1.length 0]]) (hi := σ0.length) rfl ?_ (fineT_l hf) ?_ (hei2s.get hc0) (fineT_k hf) (by simp)).mono ?_
 · intro k g v hg hv
   match k with
   | 0 => cases hg; cases hv; exact ⟨rfl, _, _, _, _, _, _, rfl, by omega, by omega, by omega, hneA, (hei2.get (hei1.get gb0)), (hei2.get (hei1.get ga0)), hai2, by simp [lenR]⟩
   | 1 => cases hg; cases hv; exact ⟨rfl, _, _, _, _, _, _, rfl, by omega, by omega, by omega, hneA, (hei2.get gb1), (hei2.get ga1), hai2, by simp [lenR]⟩
   | 2 => cases hg; cases hv; exact ⟨rfl, _, _, _, _, _, _, rfl, by omega, by omega, by omega, hneS, gb2, ga2, hsi2, by simp [lenR]⟩
   | k + 3 => simp at hg
 · intro u hu g hg
   have := size_kid hu
   simp at hg
   rcases hg with rfl | rfl | rfl <;> (simp [rankT, rank] at hn ⊢; omega)
 rintro r σE ⟨rfl, hxp⟩
 obtain ⟨o0, o1, o2, ho⟩ := three_of (partsS_len (fs := [rd N .name, rd N .names, rd N .body]) (t := t))
 have hq0 : okO (some o0) := by have := okO_parts (N := N) (gs := [.into .name (σ.length + 3) 0, .into .names (σ.length + 3) 1, .into .body (σ.length + 2) 0]) (t := t) (k := 0); rwa [show (partsS (List.map (rdT N) [.into .name (σ.length + 3) 0, .into .names (σ.length + 3) 1, .into .body (σ.length + 2) 0]) t).1 = [o0, o1, o2] from ho] at this
 have hq1 : okO (some o1) := by have := okO_parts (N := N) (gs := [.into .name (σ.length + 3) 0, .into .names (σ.length + 3) 1, .into .body (σ.length + 2) 0]) (t := t) (k := 1); rwa [show (partsS (List.map (rdT N) [.into .name (σ.length + 3) 0, .into .names (σ.length + 3) 1, .into .body (σ.length + 2) 0]) t).1 = [o0, o1, o2] from ho] at this
 have hq2 : okO (some o2) := by have := okO_parts (N := N) (gs := [.into .name (σ.length + 3) 0, .into .names (σ.length + 3) 1, .into .body (σ.length + 2) 0]) (t := t) (k := 2); rwa [show (partsS (List.map (rdT N) [.into .name (σ.length + 3) 0, .into .names (σ.length + 3) 1, .into .body (σ.length + 2) 0]) t).1 = [o0, o1, o2] from ho] at this
 have hP : partsF N fid [.into .name (σ.length + 3) 0, .into .names (σ.length + 3) 1, .into .body (σ.length + 2) 0] t σi2 = putT (putT (putT (setF σi2 fid (partsS [rd N .name, rd N .names, rd N .body] t).2) (.into .name (σ.length + 3) 0) o0) (.into .names (σ.length + 3) 1) o1) (.into .body (σ.length + 2) 0) o2 := by
  rw [partsF_eq _ _ _ _ _ (fun g tg off hm => by simp at hm; rcases hm with ⟨_, rfl, _⟩ | ⟨_, rfl, _⟩ | ⟨_, rfl, _⟩ <;> assumption)]
  show putTs _ _ (partsS [rd N .name, rd N .names, rd N .body] t).1 = _
  rw [ho]; simp only [putTs, putT_skip]; rfl
 have haE := hxp.get (by rw [hP]; exact ((putT_ne (by omega)).trans (putT_get (putT_get ((setF_ne _ hneA).trans hai2)))))
 have hsE := hxp.get (by rw [hP]; exact (putT_get ((putT_ne (by omega)).trans ((putT_ne (by omega)).trans ((setF_ne _ hneS).trans hsi2)))))
 have hxE : Ext (setF σ fid (partsS [rd N .name, rd N .names, rd N .body] t).2) σE := by
  rw [hP] at hxp
  exact (putT_ext (putT_ext (putT_ext (setF_ext _ (hx0.trans hei2s) hfl) (by rw [setF_len]; omega)) (by rw [setF_len]; omega)) (by rw [setF_len]; omega)).trans hxp
 have hl0' : lenO o0 1 := partsS_lens (fs := [rd N .name, rd N .names, rd N .body]) (t := t) (k := 0) rfl (fun u => rd_len N .name u (by have := size_pos t; simp [rank] at hn ⊢; omega)) (by rw [ho]; rfl)
 have hl1' : lenO o1 1 := partsS_lens (fs := [rd N .name, rd N .names, rd N .body]) (t := t) (k := 1) rfl (fun u => rd_len N .names u (by have := size_pos t; simp [rank] at hn ⊢; omega)) (by rw [ho]; rfl)
 have hrd : rd (N + 1) .arm t = (putO (putO (armZ.set 2 (rowsA' [putO exprZ 0 (some o2)])) 0 (some o0)) 1 (some o1), (partsS [rd N .name, rd N .names, rd N .body] t).2) := by
  show ((putO (putO armZ 0 (partsS [rd N .name, rd N .names, rd N .body] t).1[0]?) 1 (partsS [rd N .name, rd N .names, rd N .body] t).1[1]?).set 2 (rowsA' [putO exprZ 0 (partsS [rd N .name, rd N .names, rd N .body] t).1[2]?]), _) = _
  rw [ho]
  show ((putO (putO armZ 0 (some o0)) 1 (some o1)).set 2 (rowsA' [putO exprZ 0 (some o2)]), _) = _
  rw [putO_set hl1' (.inr (by omega)), putO_set hl0' (.inr (by omega))]
 have hzS : ∀ σ'' n, FrzL σ'' n (putO [.lit (.int .u8 0), .lit (.string ⟨#[]⟩), .sl [] .full, .sl [] .full, .lit (.int .u8 0), .lit (.string ⟨#[]⟩), .lit (.bool false), .sl [] .full, .lit (.bool false), .sl [] .full, .sl [] .full] 0 (some o2)) (putO exprZ 0 (some o2)) := fun σ'' n => FrzL.putO (show FrzL σ'' n _ exprZ from (.cons (.lit _) (.cons (.lit _) (.cons (.nil _) (.cons (.nil _) (.cons (.lit _) (.cons (.lit _) (.cons (.lit _) (.cons (.nil _) (.cons (.lit _) (.cons (.nil _) (.cons (.nil _) .nil)))))))))))) hq2
 have hwl : (putO exprZ 0 (some o2)).length = 11 := by rw [putO_len]; rfl
 have hz : ∀ σ'', σ''[σ.length + 2]? = some (.cells (putO [.lit (.int .u8 0), .lit (.string ⟨#[]⟩), .sl [] .full, .sl [] .full, .lit (.int .u8 0), .lit (.string ⟨#[]⟩), .lit (.bool false), .sl [] .full, .lit (.bool false), .sl [] .full, .sl [] .full] 0 (some o2)) 126) → FrzL σ'' σ.length (putO (putO [.lit (.string ⟨#[]⟩), .sl [] .full, .asl (σ.length + 2) 0 1 11] 0 (some o0)) 1 (some o1)) (rd (N + 1) .arm t).1 := fun σ'' hsE => by
  rw [hrd]
  exact FrzL.putO (FrzL.putO (show FrzL _ _ [.lit (.string ⟨#[]⟩), .sl [] .full, .asl (σ.length + 2) 0 1 11] (armZ.set 2 (rowsA' [putO exprZ 0 (some o2)])) from .cons (.lit _) (.cons (.nil _) (.cons (Frz.asl1 hsE (by omega) (hzS _ _) hwl) .nil))) hq0) hq1
 have hvl : (putO (putO [.lit (.string ⟨#[]⟩), .sl [] .full, .asl (σ.length + 2) 0 1 11] 0 (some o0)) 1 (some o1)).length = 3 := by rw [putO_len, putO_len]; rfl
 rw [show (partsS [rd N .name, rd N .names, rd N .body] t).2 = (rd (N + 1) .arm t).2 by rw [hrd]] at hxE
 generalize putO (putO [.lit (.string ⟨#[]⟩), .sl [] .full, .asl (σ.length + 2) 0 1 11] 0 (some o0)) 1 (some o1) = v at *
 simp (maxDischargeDepth := 16) [symB, List.length_set, retK, andThen, hlen]
 refine ⟨drawOk_sim [σ.length, σ.length + 3] [.reads 0, .pure, .calls 2 fun _ => true, .pure, .calls 2 fun _ => true, .pure, .reads 1, .pure, .calls 2 fun _ => true, .pure, .any] (.cons (by simp <;> omega) (.cons (by simp) .nil)) ?_ (by kernel_rfl), ?_⟩
 · refine .cons (.reads 0 _ rfl) (.cons .pure (.cons (.keeps fun x hx => ?_) (.cons .pure (.cons (.keeps fun x hx => ?_) (.cons .pure (.cons (.reads 1 _ rfl) (.cons .pure (.cons (.keeps fun x hx => ?_) (.cons .pure (.cons (.any _) .nil))))))))))
   · simp at hx; exact ⟨by simp [xi0], by omega⟩
   · simp at hx; exact ⟨by simp [xi1], by omega⟩
   · simp at hx; exact ⟨by simp [xi2], by omega⟩
 refine hK _ _ ?_; clear hK K
 have hrE : σE[σ.length + 1]? = some (.cells [.lit (.string ⟨#[]⟩), .sl [] .full, .sl [] .full] 249) := hxp.get (by rw [hP]; exact (putT_ne (by omega)).trans ((putT_ne (by omega)).trans ((putT_ne (by omega)).trans ((setF_ne _ (by omega)).trans (hei2s.get hp)))))
 have htk : List.take 3 v = v := List.take_of_length_le (by omega)
 have htp : putCells [.lit (.string ⟨#[]⟩), .sl [] .full, .sl [] .full] 0 v = v := by have := putCells_app v [.lit (.string ⟨#[]⟩), .sl [] .full, .sl [] .full] [] (by rw [hvl]; rfl); simpa using this
 have hsr : ∀ o, (σE.set (σ.length + 1) o)[σ.length + 1]? = some o := fun o => List.getElem?_set_self (lt_of_obj hrE)
 have hxs : ∀ o, Ext (setF σ fid (rd (N + 1) .arm t).2) (σE.set (σ.length + 1) o) := fun o => hxE.set (by rw [setF_len]; omega)
 have hsE' : ∀ o, (σE.set (σ.length + 1) o)[σ.length + 2]? = _ := fun o => (List.getElem?_set_ne (by omega)).trans hsE
 refine CW.seqK fun K hK => CW.region ?_
 simp (maxDischargeDepth := 16) [symB, List.length_set, andThen, hlen, h2, h3, haE, hrE, hvl, htk, htp]
 refine hK _ _ ?_; clear hK K
 refine CW.ret (hR0 _ _ _ ⟨.agg v, ?_, fgt_of (hxs _) hc (hz _ (hsE' _)).agg⟩)
 simp [resultsA, omap, res_tmp, res_cell, slot_eq, slot_ne, hlen, h2, hsr, partA, aggT, hvl, htk]
end
section
open Go.RowKit
theorem evLit_mk {P : Program} {ρ : Operand → Option AV} {σ : Sto} {t : TypeId} {ds : Option Tmp} {ty : TypeId} {po : String} {af : Array Edge} {gu : Option (Nat × Bool)} (w : World) : evLit P ρ σ ⟨ds, .makeMap t none, ty, po, af, gu⟩ = none := by
 unfold evLit
 dsimp only
 split
 · have hr : (execOp (fun x => ((ρ x).bind conc).getD undef) ⟨ds, .makeMap t none, ty, po, af, gu⟩).run P w = .ok (.value (.map (some w.heap.size))) (w.alloc (.map #[] 0)) := by
    unfold execOp
    refine run_v ?_
    simp [Instr.makeMap, Result.andThen]
   cases hp : pureRun P (execOp (fun x => ((ρ x).bind conc).getD undef) ⟨ds, .makeMap t none, ty, po, af, gu⟩) with
   | none => rfl
   | some q =>
    cases q with
    | inl x =>
     have := pureRun_ok hp w
     rw [hr] at this
     injection this with _ h2
     have h3 := congrArg (fun w : World => w.heap.size) h2
     simp at h3
    | inr v =>
     have := pureRun_panic hp w
     rw [hr] at this
     cases this
 · rfl
theorem es_mk {P : Program} {M : List TypeId} {ρ : Operand → Option AV} {σ : Sto} {t kt e : TypeId} {q : KK} {ds : Option Tmp} {ty : TypeId} {po : String} {af : Array Edge} {gu : Option (Nat × Bool)} (h1 : P.underlying t = some (.map kt e)) (h2 : (P.underlying kt).bind kkOf = some q) :
    evStep P M ρ σ ⟨ds, .makeMap t none, ty, po, af, gu⟩ = some (.val (.mp σ.length) (σ ++ [.map q []]) (.news σ.length)) := by
 rw [es_makeMap]
 unfold evStepU
 rw [evLit_mk default]
 simp [evPure, evMem, evMk, h1, h2]
theorem set_new (σ : Sto) (x y : AObj) : (σ ++ [x]).set σ.length y = σ ++ [y] := by rw [List.set_append_right _ _ (Nat.le_refl _), Nat.sub_self]; rfl
end
end Go.Proofs.YtkkblmdgedmdfaaGreatDoor
