/-
 EV: parse: last (printed by gen_rd2.py).
-/
import Derived.Test.YtkkblmdgedmdfaaGreatDoorEvPRest2
import Derived.Test.YtkkblmdgedmdfaaGreatDoorEvPWordM
namespace Go.Proofs.YtkkblmdgedmdfaaGreatDoor
set_option linter.unusedSimpArgs false
set_option linter.unusedVariables false
section
open Go.RowKit
set_option maxRecDepth 100000 in
set_option maxHeartbeats 2000000 in
theorem last_rd (N : Nat) : RdOk N .last := by
 intro t fid σ hf hn hc
 show JC _ _ 104 _ _ _
 refine JC.startW (fn := Tryz.f104) (M := []) rfl rfl rfl (by simp) fun tm hlen hs => ?_
 have h0 := hs 0 _ rfl
 clear hs
 rw [nodeA_eq] at h0
 simp at hlen
 refine CW.hide fun R0 hR0 => ?_
 have hfl := lt_of_obj hc
 refine CW.seqK fun K hK => CW.region ?_
 simp (maxDischargeDepth := 16) [symB, List.length_set, andThen, hlen, h0]
 refine hK _ _ ?_; clear hK K
 refine CW.reset2 (fun tm σ1 => tm.length = 56 ∧ slot tm 1 = .ptr σ.length 0 ∧ slot tm 2 = .ptr (σ.length + 1) 0 ∧ σ1 = σ ++ [nodeO t fid, .cells [.lit (.int .u8 0), .lit (.string ⟨#[]⟩), .sl [] .full, .sl [] .full, .lit (.int .u8 0), .lit (.string ⟨#[]⟩), .lit (.bool false), .sl [] .full, .lit (.bool false), .sl [] .full, .sl [] .full] 126]) ⟨by simp [hlen], by simp [slot_eq, slot_ne, hlen], by simp [slot_eq, slot_ne, hlen], rfl⟩ ?_
 clear h0 hlen tm
 rintro tm σ0 ⟨hlen, h1, h2, hσ0⟩
 have hb0 : σ0[σ.length]? = some (.cells [.lit (.string (bs t.word)), .sl (rowsOf t.kids) .no, .lit (.bool t.row), .lit (.int .i64 t.at_), .ptr fid 0] 57) := by rw [hσ0]; exact get_new _ _ _
 have hp : σ0[σ.length + 1]? = some (.cells [.lit (.int .u8 0), .lit (.string ⟨#[]⟩), .sl [] .full, .sl [] .full, .lit (.int .u8 0), .lit (.string ⟨#[]⟩), .lit (.bool false), .sl [] .full, .lit (.bool false), .sl [] .full, .sl [] .full] 126) := by rw [hσ0]; exact get_new1 _ _ _ _
 have hx0 : Ext σ σ0 := by rw [hσ0]; exact ⟨_, rfl⟩
 have hc0 : σ0[fid]? = some cleanO := by rw [hσ0]; exact get_app hc
 have hl0 : σ0.length = σ.length + 2 := by rw [hσ0]; simp
 clear hσ0
 have hkl : (rowsOf t.kids).length = t.kids.length := rowsOf_length _
 refine CW.seqK fun K hK => CW.region ?_
 simp (maxDischargeDepth := 16) [symB, List.length_set, andThen, hlen, h1, hb0, hkl]
 refine hK _ _ ?_; clear hK K
 refine CW.seqK fun KA hKA => ?_
 have fin : ∀ (v : List AV) (tm : List AV) (σ' : Sto), v.length = 11 → (∀ σ'' k, FrzL σ'' k v (rd (N + 1) .last t).1) → Ext (setF σ fid (rd (N + 1) .last t).2) σ' → σ'[σ.length + 1]? = some (.cells v 126) → tm.length = 56 → slot tm 2 = .ptr (σ.length + 1) 0 → KA tm σ' := by
  intro v tm σ' hvl hz hxv hpv0 hlen h2
  refine hKA _ _ ?_
  have htk : List.take 11 v = v := List.take_of_length_le (by omega)
  have hxs : ∀ o, Ext _ (σ'.set (σ.length + 1) o) := fun o => hxv.set (by rw [setF_len]; omega)
  have hsr : ∀ o, (σ'.set (σ.length + 1) o)[σ.length + 1]? = some o := fun o => List.getElem?_set_self (lt_of_obj hpv0)
  have hpv : putCells v 0 v = v := by have := putCells_app v v [] rfl; simpa using this
  refine CW.seqK fun K hK => CW.region ?_
  simp (maxDischargeDepth := 16) [symB, List.length_set, andThen, hlen, h2, hpv0, hvl, htk, hpv]
  refine hK _ _ ?_; clear hK K
  refine CW.ret (hR0 _ _ _ ⟨.agg v, ?_, fgt_of (hxs _) hc (hz _ _).agg⟩)
  simp [resultsA, omap, res_tmp, res_cell, slot_eq, slot_ne, hlen, h2, hsr, partA, aggT, hvl, htk]
 clear hKA hR0
 refine CW.seqK fun KB hKB => CW.region ?_
 simp (maxDischargeDepth := 16) [symB, List.length_set, andThen, hlen, h1, hb0]
 rw [← nodeA_eq]
 refine (head_ev N t fid σ0 (fineT_k hf)).mono ?_
 rintro r σh ⟨rfl, hxh⟩
 replace hb0 := hxh.get hb0
 replace hp := hxh.get hp
 replace hc0 := hxh.get hc0
 replace hl0 : σ.length + 2 ≤ σh.length := by have := hxh.len; omega
 replace hx0 := hx0.trans hxh
 clear hxh
 have htl : (bs (headS t)).toList = headS t := bs_list _
 simp (maxDischargeDepth := 16) [symB, List.length_set, retK, andThen, hlen, strA]
 refine hKB _ _ ?_; clear hKB KB
 refine CW.reset2 (fun tm σ1 => tm.length = 56 ∧ slot tm 1 = .ptr σ.length 0 ∧ slot tm 2 = .ptr (σ.length + 1) 0 ∧ slot tm 3 = .lit (.int .i64 t.kids.length) ∧ slot tm 4 = .lit (.string (bs (headS t))) ∧ σh = σ1) ⟨by simp [hlen], by simp [slot_ne, h1], by simp [slot_ne, h2], by simp [slot_eq, slot_ne, hlen, hkl], by simp [slot_eq, slot_ne, hlen], rfl⟩ ?_
 clear h1 h2 hlen tm
 rintro tm σx ⟨hlen, h1, h2, h3, h4, rfl⟩
 refine CW.block ?_
 refine CW.seqK fun KT hKT => CW.region ?_
 have no : ¬ (headS t = [114, 101, 116] ∧ t.kids.length = 2) → ∀ tm : List AV, tm.length = 56 → slot tm 1 = .ptr σ.length 0 → slot tm 2 = .ptr (σ.length + 1) 0 → slot tm 3 = .lit (.int .i64 t.kids.length) → slot tm 4 = .lit (.string (bs (headS t))) → slot tm 13 = .lit (.bool false) → KT tm σh := by
  intro hcn tm hlen h1 h2 h3 h4 hT
  refine hKT _ _ ?_; clear hKT KT
  refine CW.cond (t := false) (by simp [evx_tmp, slot_eq, slot_ne, hlen, hT]) ?_
  have c1 := hcn
  refine CW.seqK fun KT hKT => CW.region ?_
  have no : ¬ (headS t = [105, 102] ∧ t.kids.length = 4) → ∀ tm : List AV, tm.length = 56 → slot tm 1 = .ptr σ.length 0 → slot tm 2 = .ptr (σ.length + 1) 0 → slot tm 3 = .lit (.int .i64 t.kids.length) → slot tm 4 = .lit (.string (bs (headS t))) → slot tm 25 = .lit (.bool false) → KT tm σh := by
   intro hcn tm hlen h1 h2 h3 h4 hT
   refine hKT _ _ ?_; clear hKT KT
   refine CW.cond (t := false) (by simp [evx_tmp, slot_eq, slot_ne, hlen, hT]) ?_
   have c2 := hcn
   refine CW.seqK fun KT hKT => CW.region ?_
   have no : ¬ (headS t = [109, 97, 116, 99, 104] ∧ 2 ≤ t.kids.length) → ∀ tm : List AV, tm.length = 56 → slot tm 1 = .ptr σ.length 0 → slot tm 2 = .ptr (σ.length + 1) 0 → slot tm 3 = .lit (.int .i64 t.kids.length) → slot tm 4 = .lit (.string (bs (headS t))) → slot tm 40 = .lit (.bool false) → KT tm σh := by
    intro hcn tm hlen h1 h2 h3 h4 hT
    refine hKT _ _ ?_; clear hKT KT
    refine CW.cond (t := false) (by simp [evx_tmp, slot_eq, slot_ne, hlen, hT]) ?_
    have c3 := hcn
    have hrd : rd (N + 1) .last t = (exprZ, some t.at_) := by
     show (if _ then _ else _) = _
     rw [if_neg c1, if_neg c2, if_neg c3]
    have hne : σ.length + 1 ≠ fid := by omega
    refine CW.region ?_
    simp (maxDischargeDepth := 16) [symB, List.length_set, andThen, outOf, hlen, h1, h2, h3, h4, hb0]
    rw [← nodeA_eq]
    refine (fault_ev N t fid σh hc0).mono ?_
    rintro r σ2 ⟨rfl, hx2⟩
    have hp2 := hx2.get ((setF_ne _ hne).trans hp)
    simp (maxDischargeDepth := 16) [symB, List.length_set, retK, andThen, outOf, hlen, h1, h2, h3, h4]
    exact fin _ _ _ rfl (fun _ _ => by rw [hrd]; exact (show FrzL _ _ [.lit (.int .u8 0), .lit (.string ⟨#[]⟩), .sl [] .full, .sl [] .full, .lit (.int .u8 0), .lit (.string ⟨#[]⟩), .lit (.bool false), .sl [] .full, .lit (.bool false), .sl [] .full, .sl [] .full] (exprZ) from (.cons (.lit _) (.cons (.lit _) (.cons (.nil _) (.cons (.nil _) (.cons (.lit _) (.cons (.lit _) (.cons (.lit _) (.cons (.nil _) (.cons (.lit _) (.cons (.nil _) (.cons (.nil _) .nil))))))))))))) (by rw [hrd]; exact (setF_ext _ hx0 hfl).trans hx2) hp2 (by simp [hlen]) (by simp [slot_ne, h2])
   have ht1 : (⟨#[109, 97, 116, 99, 104]⟩ : ByteArray).toList = [109, 97, 116, 99, 104] := bs_list [109, 97, 116, 99, 104]
   rcases Classical.em (headS t = [109, 97, 116, 99, 104]) with e | e
   · rcases Classical.em (2 ≤ t.kids.length) with m | m
     · have m' : (2 : Int) ≤ t.kids.length := by omega
       simp (maxDischargeDepth := 16) [symB, List.length_set, andThen, hlen, h1, h2, h3, h4, htl, ht1, e, bs_list, m, m']
       refine hKT _ _ ?_; clear no hKT KT
       refine CW.cond (t := true) (by simp [evx_tmp, slot_eq, slot_ne, hlen, e, bs_list, m, m']) ?_
       have hkl1 : 1 < t.kids.length := by omega
       have hget : t.kids[1]? = some t.kids[1] := List.getElem?_eq_getElem hkl1
       have hmem := List.getElem_mem hkl1
       have hka : kidAt t 1 = t.kids[1] := by unfold kidAt; rw [List.getD_eq_getElem?_getD, hget]; rfl
       have hrd : rd (N + 1) .last t = ((putCells (exprZ.set 0 (u8A 4)) 4 (rd N .atom t.kids[1]).1).set 9 (rowsA' (restO (rd N .atom t.kids[1]).2 (rd N .arm) (t.kids.drop 2)).1), (restO (rd N .atom t.kids[1]).2 (rd N .arm) (t.kids.drop 2)).2) := by
        show (if _ then _ else _) = _
        rw [if_neg c1, if_neg c2, if_pos ⟨e, m⟩, hka]
       generalize t.kids[1] = u at *
       refine CW.seqK fun KB hKB => CW.region ?_
       simp (maxDischargeDepth := 16) [symB, List.length_set, andThen, outOf, hlen, h1, h2, h3, h4, hb0]
       rw [← nodeA_eq]
       refine (kid_ev N hget (fineT_k hf)).mono ?_
       rintro r σ2 ⟨rfl, hx2⟩
       have hp2 := hx2.get hp
       have hb2 := hx2.get hb0
       have hc2 := hx2.get hc0
       have hx02 := hx0.trans hx2
       have hl2 := hx2.len
       have hsz := size_kid hmem
       simp (maxDischargeDepth := 16) [symB, List.length_set, retK, andThen, outOf, hlen, h1, h2, h3, h4, hp2]
       refine rd_ev (N := N) .atom (fineL_mem (fineT_l hf) hmem) (by simp [rank] at hn ⊢; omega) hc2 ?_
       have hrk : rank .atom ≤ N := by simp [rank] at hn ⊢; omega
       have hvc := (valR_cells (t := u) hrk).1
       have hvt := (valR_cells (t := u) hrk).2
       have hvl := rd_len N .atom u hrk
       have hok := rd_ok N .atom u
       simp only [lenR] at hvl
       have hne : σ.length + 1 ≠ fid := by omega
       have hne0 : σ.length ≠ fid := by omega
       generalize (rd N .atom u).1 = av at *
       generalize (rd N .atom u).2 = ao at *
       have hr4 := (setF_ne ao hne).trans hp2
       have hb4 := (setF_ne ao hne0).trans hb2
       have hx4 := setF_ext ao hx02 hfl
       generalize setF σ2 fid ao = σ4 at *
       have hs4 : ∀ o, (σ4.set (σ.length + 1) o)[σ.length + 1]? = some o := fun o => List.getElem?_set_self (lt_of_obj hr4)
       have hxs4 : ∀ o, Ext (setF σ fid ao) (σ4.set (σ.length + 1) o) := fun o => hx4.set (by rw [setF_len]; omega)
       have hbs4 : ∀ o, (σ4.set (σ.length + 1) o)[σ.length]? = _ := fun o => (List.getElem?_set_ne (by omega)).trans hb4
       generalize valR .atom av = vv at *
       simp (maxDischargeDepth := 16) [symB, List.length_set, retK, andThen, outOf, hlen, h1, h2, h3, h4, hvc, hvt, hvl, hr4, hs4, List.set_set]
       refine hKB _ _ ?_; clear hKB KB
       have hzW : ∀ σ'' k, FrzL σ'' k (putCells [.lit (.int .u8 4), .lit (.string ⟨#[]⟩), .sl [] .full, .sl [] .full, .lit (.int .u8 0), .lit (.string ⟨#[]⟩), .lit (.bool false), .sl [] .full, .lit (.bool false), .sl [] .full, .sl [] .full] 4 av) (putCells (exprZ.set 0 (u8A 4)) 4 av) := fun _ _ => FrzL.put (FrzL.refl hok) (show FrzL _ _ [.lit (.int .u8 4), .lit (.string ⟨#[]⟩), .sl [] .full, .sl [] .full, .lit (.int .u8 0), .lit (.string ⟨#[]⟩), .lit (.bool false), .sl [] .full, .lit (.bool false), .sl [] .full, .sl [] .full] (exprZ.set 0 (u8A 4)) from (.cons (.lit _) (.cons (.lit _) (.cons (.nil _) (.cons (.nil _) (.cons (.lit _) (.cons (.lit _) (.cons (.lit _) (.cons (.nil _) (.cons (.lit _) (.cons (.nil _) (.cons (.nil _) .nil))))))))))))
       have hWl : (putCells [.lit (.int .u8 4), .lit (.string ⟨#[]⟩), .sl [] .full, .sl [] .full, .lit (.int .u8 0), .lit (.string ⟨#[]⟩), .lit (.bool false), .sl [] .full, .lit (.bool false), .sl [] .full, .sl [] .full] 4 av).length = 11 := by first | rfl | (rw [putCells_len]; rfl)
       generalize putCells [.lit (.int .u8 4), .lit (.string ⟨#[]⟩), .sl [] .full, .sl [] .full, .lit (.int .u8 0), .lit (.string ⟨#[]⟩), .lit (.bool false), .sl [] .full, .lit (.bool false), .sl [] .full, .sl [] .full] 4 av = W at *
       have hb5 := hbs4 (.cells W 126)
       have hp5 := hs4 (.cells W 126)
       have hx5 := hxs4 (.cells W 126)
       clear hbs4 hs4 hxs4 hr4 hb4 hx4
       generalize σ4.set (σ.length + 1) (.cells W 126) = σ5 at *
       refine CW.region ?_
       simp (maxDischargeDepth := 16) [symB, List.length_set, andThen, outOf, hlen, h1, h2, h3, h4, hb5]
       rw [← nodeA_eq]
       refine (rest_arm_any N .arm rfl (src := 2) ao hx5 (fineT_l hf) (fun u hu => by have := size_kid hu; simp [rank] at hn ⊢; omega) hc (fineT_k hf) (by omega)).mono ?_
       rintro r σ6 ⟨tok, rfl, hx6, hy6⟩
       have hp6 := hy6.get ((setF_ne _ hne).trans hp5)
       have hs6 : ∀ o, (σ6.set (σ.length + 1) o)[σ.length + 1]? = some o := fun o => List.getElem?_set_self (lt_of_obj hp6)
       have hxs6 : ∀ o, Ext _ (σ6.set (σ.length + 1) o) := fun o => hx6.set (by rw [setF_len]; omega)
       have hokq : okR (restO ao (rd N .arm) (t.kids.drop 2)).1 := okR_restO fun u => rd_ok N .arm u
       generalize restO ao (rd N .arm) (t.kids.drop 2) = q at *
       simp (maxDischargeDepth := 16) [symB, List.length_set, retK, andThen, outOf, hlen, h1, h2, h3, h4, hp6, hs6, hWl]
       exact fin _ _ _ (by simp [hWl]) (fun _ _ => by rw [hrd]; exact (hzW _ _).set (.okR hokq tok)) (by rw [hrd]; exact hxs6 _) (hs6 _) (by simp [hlen]) (by simp [slot_ne, h2])
     · have m' : ¬ (2 : Int) ≤ t.kids.length := by omega
       simp (maxDischargeDepth := 16) [symB, List.length_set, andThen, hlen, h1, h2, h3, h4, htl, ht1, e, bs_list, m, m']
       exact no (fun h => m h.2) _ (by simp [hlen]) (by simp [slot_ne, h1]) (by simp [slot_ne, h2]) (by simp [slot_ne, h3]) (by simp [slot_ne, h4]) (by simp [slot_eq, slot_ne, hlen, e, bs_list, m, m'])
   · simp (maxDischargeDepth := 16) [symB, List.length_set, andThen, hlen, h1, h2, h3, h4, htl, ht1, e]
     exact no (fun h => e h.1) _ (by simp [hlen]) (by simp [slot_ne, h1]) (by simp [slot_ne, h2]) (by simp [slot_ne, h3]) (by simp [slot_ne, h4]) (by simp [slot_eq, slot_ne, hlen, e, bs_list, htl, ht1])
  have ht1 : (⟨#[105, 102]⟩ : ByteArray).toList = [105, 102] := bs_list [105, 102]
  rcases Classical.em (headS t = [105, 102]) with e | e
  · rcases Classical.em (t.kids.length = 4) with m | m
    · have m' : (t.kids.length : Int) = 4 := by omega
      simp (maxDischargeDepth := 16) [symB, List.length_set, andThen, hlen, h1, h2, h3, h4, htl, ht1, e, bs_list, m, m']
      refine hKT _ _ ?_; clear no hKT KT
      refine CW.cond (t := true) (by simp [evx_tmp, slot_eq, slot_ne, hlen, e, bs_list, m, m']) ?_
      have hkl1 : 1 < t.kids.length := by omega
      have hget : t.kids[1]? = some t.kids[1] := List.getElem?_eq_getElem hkl1
      have hmem := List.getElem_mem hkl1
      have hka : kidAt t 1 = t.kids[1] := by unfold kidAt; rw [List.getD_eq_getElem?_getD, hget]; rfl
      have hrd : rd (N + 1) .last t = ((putCells (exprZ.set 0 (u8A 3)) 4 (rd N .atom t.kids[1]).1).set 10 (rowsA' (restO (rd N .atom t.kids[1]).2 (rd N .body) (t.kids.drop 2)).1), (restO (rd N .atom t.kids[1]).2 (rd N .body) (t.kids.drop 2)).2) := by
       show (if _ then _ else _) = _
       rw [if_neg c1, if_pos ⟨e, m⟩, hka]
      generalize t.kids[1] = u at *
      refine CW.seqK fun KB hKB => CW.region ?_
      simp (maxDischargeDepth := 16) [symB, List.length_set, andThen, outOf, hlen, h1, h2, h3, h4, hb0]
      rw [← nodeA_eq]
      refine (kid_ev N hget (fineT_k hf)).mono ?_
      rintro r σ2 ⟨rfl, hx2⟩
      have hp2 := hx2.get hp
      have hb2 := hx2.get hb0
      have hc2 := hx2.get hc0
      have hx02 := hx0.trans hx2
      have hl2 := hx2.len
      have hsz := size_kid hmem
      simp (maxDischargeDepth := 16) [symB, List.length_set, retK, andThen, outOf, hlen, h1, h2, h3, h4, hp2]
      refine rd_ev (N := N) .atom (fineL_mem (fineT_l hf) hmem) (by simp [rank] at hn ⊢; omega) hc2 ?_
      have hrk : rank .atom ≤ N := by simp [rank] at hn ⊢; omega
      have hvc := (valR_cells (t := u) hrk).1
      have hvt := (valR_cells (t := u) hrk).2
      have hvl := rd_len N .atom u hrk
      have hok := rd_ok N .atom u
      simp only [lenR] at hvl
      have hne : σ.length + 1 ≠ fid := by omega
      have hne0 : σ.length ≠ fid := by omega
      generalize (rd N .atom u).1 = av at *
      generalize (rd N .atom u).2 = ao at *
      have hr4 := (setF_ne ao hne).trans hp2
      have hb4 := (setF_ne ao hne0).trans hb2
      have hx4 := setF_ext ao hx02 hfl
      generalize setF σ2 fid ao = σ4 at *
      have hs4 : ∀ o, (σ4.set (σ.length + 1) o)[σ.length + 1]? = some o := fun o => List.getElem?_set_self (lt_of_obj hr4)
      have hxs4 : ∀ o, Ext (setF σ fid ao) (σ4.set (σ.length + 1) o) := fun o => hx4.set (by rw [setF_len]; omega)
      have hbs4 : ∀ o, (σ4.set (σ.length + 1) o)[σ.length]? = _ := fun o => (List.getElem?_set_ne (by omega)).trans hb4
      generalize valR .atom av = vv at *
      simp (maxDischargeDepth := 16) [symB, List.length_set, retK, andThen, outOf, hlen, h1, h2, h3, h4, hvc, hvt, hvl, hr4, hs4, List.set_set]
      refine hKB _ _ ?_; clear hKB KB
      have hzW : ∀ σ'' k, FrzL σ'' k (putCells [.lit (.int .u8 3), .lit (.string ⟨#[]⟩), .sl [] .full, .sl [] .full, .lit (.int .u8 0), .lit (.string ⟨#[]⟩), .lit (.bool false), .sl [] .full, .lit (.bool false), .sl [] .full, .sl [] .full] 4 av) (putCells (exprZ.set 0 (u8A 3)) 4 av) := fun _ _ => FrzL.put (FrzL.refl hok) (show FrzL _ _ [.lit (.int .u8 3), .lit (.string ⟨#[]⟩), .sl [] .full, .sl [] .full, .lit (.int .u8 0), .lit (.string ⟨#[]⟩), .lit (.bool false), .sl [] .full, .lit (.bool false), .sl [] .full, .sl [] .full] (exprZ.set 0 (u8A 3)) from (.cons (.lit _) (.cons (.lit _) (.cons (.nil _) (.cons (.nil _) (.cons (.lit _) (.cons (.lit _) (.cons (.lit _) (.cons (.nil _) (.cons (.lit _) (.cons (.nil _) (.cons (.nil _) .nil))))))))))))
      have hWl : (putCells [.lit (.int .u8 3), .lit (.string ⟨#[]⟩), .sl [] .full, .sl [] .full, .lit (.int .u8 0), .lit (.string ⟨#[]⟩), .lit (.bool false), .sl [] .full, .lit (.bool false), .sl [] .full, .sl [] .full] 4 av).length = 11 := by first | rfl | (rw [putCells_len]; rfl)
      generalize putCells [.lit (.int .u8 3), .lit (.string ⟨#[]⟩), .sl [] .full, .sl [] .full, .lit (.int .u8 0), .lit (.string ⟨#[]⟩), .lit (.bool false), .sl [] .full, .lit (.bool false), .sl [] .full, .sl [] .full] 4 av = W at *
      have hb5 := hbs4 (.cells W 126)
      have hp5 := hs4 (.cells W 126)
      have hx5 := hxs4 (.cells W 126)
      clear hbs4 hs4 hxs4 hr4 hb4 hx4
      generalize σ4.set (σ.length + 1) (.cells W 126) = σ5 at *
      refine CW.region ?_
      simp (maxDischargeDepth := 16) [symB, List.length_set, andThen, outOf, hlen, h1, h2, h3, h4, hb5]
      rw [← nodeA_eq]
      refine (rest_expr_any N .body rfl (src := 2) ao hx5 (fineT_l hf) (fun u hu => by have := size_kid hu; simp [rank] at hn ⊢; omega) hc (fineT_k hf) (by omega)).mono ?_
      rintro r σ6 ⟨tok, rfl, hx6, hy6⟩
      have hp6 := hy6.get ((setF_ne _ hne).trans hp5)
      have hs6 : ∀ o, (σ6.set (σ.length + 1) o)[σ.length + 1]? = some o := fun o => List.getElem?_set_self (lt_of_obj hp6)
      have hxs6 : ∀ o, Ext _ (σ6.set (σ.length + 1) o) := fun o => hx6.set (by rw [setF_len]; omega)
      have hokq : okR (restO ao (rd N .body) (t.kids.drop 2)).1 := okR_restO fun u => rd_ok N .body u
      generalize restO ao (rd N .body) (t.kids.drop 2) = q at *
      simp (maxDischargeDepth := 16) [symB, List.length_set, retK, andThen, outOf, hlen, h1, h2, h3, h4, hp6, hs6, hWl]
      exact fin _ _ _ (by simp [hWl]) (fun _ _ => by rw [hrd]; exact (hzW _ _).set (.okR hokq tok)) (by rw [hrd]; exact hxs6 _) (hs6 _) (by simp [hlen]) (by simp [slot_ne, h2])
    · have m' : ¬ (t.kids.length : Int) = 4 := by omega
      simp (maxDischargeDepth := 16) [symB, List.length_set, andThen, hlen, h1, h2, h3, h4, htl, ht1, e, bs_list, m, m']
      exact no (fun h => m h.2) _ (by simp [hlen]) (by simp [slot_ne, h1]) (by simp [slot_ne, h2]) (by simp [slot_ne, h3]) (by simp [slot_ne, h4]) (by simp [slot_eq, slot_ne, hlen, e, bs_list, m, m'])
  · simp (maxDischargeDepth := 16) [symB, List.length_set, andThen, hlen, h1, h2, h3, h4, htl, ht1, e]
    exact no (fun h => e h.1) _ (by simp [hlen]) (by simp [slot_ne, h1]) (by simp [slot_ne, h2]) (by simp [slot_ne, h3]) (by simp [slot_ne, h4]) (by simp [slot_eq, slot_ne, hlen, e, bs_list, htl, ht1])
 have ht1 : (⟨#[114, 101, 116]⟩ : ByteArray).toList = [114, 101, 116] := bs_list [114, 101, 116]
 rcases Classical.em (headS t = [114, 101, 116]) with e | e
 · rcases Classical.em (t.kids.length = 2) with m | m
   · have m' : (t.kids.length : Int) = 2 := by omega
     simp (maxDischargeDepth := 16) [symB, List.length_set, andThen, hlen, h1, h2, h3, h4, htl, ht1, e, bs_list, m, m']
     refine hKT _ _ ?_; clear no hKT KT
     refine CW.cond (t := true) (by simp [evx_tmp, slot_eq, slot_ne, hlen, e, bs_list, m, m']) ?_
     have hkl1 : 1 < t.kids.length := by omega
     have hget : t.kids[1]? = some t.kids[1] := List.getElem?_eq_getElem hkl1
     have hmem := List.getElem_mem hkl1
     have hka : kidAt t 1 = t.kids[1] := by unfold kidAt; rw [List.getD_eq_getElem?_getD, hget]; rfl
     have hrd : rd (N + 1) .last t = (putCells (exprZ.set 0 (u8A 2)) 4 (rd N .atom t.kids[1]).1, (rd N .atom t.kids[1]).2) := by
      show (if _ then _ else _) = _
      rw [if_pos ⟨e, m⟩, hka]
     generalize t.kids[1] = u at *
     refine CW.region ?_
     simp (maxDischargeDepth := 16) [symB, List.length_set, andThen, outOf, hlen, h1, h2, h3, h4, hb0]
     rw [← nodeA_eq]
     refine (kid_ev N hget (fineT_k hf)).mono ?_
     rintro r σ2 ⟨rfl, hx2⟩
     have hp2 := hx2.get hp
     have hb2 := hx2.get hb0
     have hc2 := hx2.get hc0
     have hx02 := hx0.trans hx2
     have hl2 := hx2.len
     have hsz := size_kid hmem
     simp (maxDischargeDepth := 16) [symB, List.length_set, retK, andThen, outOf, hlen, h1, h2, h3, h4, hp2]
     refine rd_ev (N := N) .atom (fineL_mem (fineT_l hf) hmem) (by simp [rank] at hn ⊢; omega) hc2 ?_
     have hrk : rank .atom ≤ N := by simp [rank] at hn ⊢; omega
     have hvc := (valR_cells (t := u) hrk).1
     have hvt := (valR_cells (t := u) hrk).2
     have hvl := rd_len N .atom u hrk
     have hok := rd_ok N .atom u
     simp only [lenR] at hvl
     have hne : σ.length + 1 ≠ fid := by omega
     have hne0 : σ.length ≠ fid := by omega
     generalize (rd N .atom u).1 = av at *
     generalize (rd N .atom u).2 = ao at *
     have hr4 := (setF_ne ao hne).trans hp2
     have hb4 := (setF_ne ao hne0).trans hb2
     have hx4 := setF_ext ao hx02 hfl
     generalize setF σ2 fid ao = σ4 at *
     have hs4 : ∀ o, (σ4.set (σ.length + 1) o)[σ.length + 1]? = some o := fun o => List.getElem?_set_self (lt_of_obj hr4)
     have hxs4 : ∀ o, Ext (setF σ fid ao) (σ4.set (σ.length + 1) o) := fun o => hx4.set (by rw [setF_len]; omega)
     have hbs4 : ∀ o, (σ4.set (σ.length + 1) o)[σ.length]? = _ := fun o => (List.getElem?_set_ne (by omega)).trans hb4
     generalize valR .atom av = vv at *
     simp (maxDischargeDepth := 16) [symB, List.length_set, retK, andThen, outOf, hlen, h1, h2, h3, h4, hvc, hvt, hvl, hr4, hs4, List.set_set]
     exact fin _ _ _ (by first | rfl | (rw [putCells_len]; rfl)) (fun _ _ => by rw [hrd]; exact FrzL.put (FrzL.refl hok) (show FrzL _ _ [.lit (.int .u8 2), .lit (.string ⟨#[]⟩), .sl [] .full, .sl [] .full, .lit (.int .u8 0), .lit (.string ⟨#[]⟩), .lit (.bool false), .sl [] .full, .lit (.bool false), .sl [] .full, .sl [] .full] (exprZ.set 0 (u8A 2)) from (.cons (.lit _) (.cons (.lit _) (.cons (.nil _) (.cons (.nil _) (.cons (.lit _) (.cons (.lit _) (.cons (.lit _) (.cons (.nil _) (.cons (.lit _) (.cons (.nil _) (.cons (.nil _) .nil))))))))))))) (by rw [hrd]; exact hxs4 _) (hs4 _) (by simp [hlen]) (by simp [slot_ne, h2])
   · have m' : ¬ (t.kids.length : Int) = 2 := by omega
     simp (maxDischargeDepth := 16) [symB, List.length_set, andThen, hlen, h1, h2, h3, h4, htl, ht1, e, bs_list, m, m']
     exact no (fun h => m h.2) _ (by simp [hlen]) (by simp [slot_ne, h1]) (by simp [slot_ne, h2]) (by simp [slot_ne, h3]) (by simp [slot_ne, h4]) (by simp [slot_eq, slot_ne, hlen, e, bs_list, m, m'])
 · simp (maxDischargeDepth := 16) [symB, List.length_set, andThen, hlen, h1, h2, h3, h4, htl, ht1, e]
   exact no (fun h => e h.1) _ (by simp [hlen]) (by simp [slot_ne, h1]) (by simp [slot_ne, h2]) (by simp [slot_ne, h3]) (by simp [slot_ne, h4]) (by simp [slot_eq, slot_ne, hlen, e, bs_list, htl, ht1])
end
section
open Go.RowKit
def lenO (o : Option (List AV)) (n : Nat) : Prop := ∀ v, o = some v → v.length = n
theorem lenO_none (n : Nat) : lenO none n := fun v h => by cases h
theorem partsG_lens : ∀ {fs : List (Tr → Ans)} {l : List Tr} {k n : Nat} {f : Tr → Ans} {o : Option (List AV)}, fs[k]? = some f → (∀ t, (f t).1.length = n) → (partsG fs l).1[k]? = some o → lenO o n
 | [], l, k, n, f, o, h, _, _ => by simp at h
 | f :: fs, [], k, n, g, o, h, hn, ho => by
  rw [partsG_nil] at ho
  have := List.mem_of_getElem? ho
  obtain ⟨_, _, rfl⟩ := List.mem_map.1 this
  exact lenO_none n
 | f :: fs, t :: l, k, n, g, o, h, hn, ho => by
  rw [partsG_cons] at ho
  cases hq : (f t).2 with
  | some p =>
   rw [hq] at ho
   simp only at ho
   cases k with
   | zero =>
    cases h; cases ho
    intro v hv
    cases hv
    exact hn t
   | succ k =>
    have := List.mem_of_getElem? (show (fs.map fun _ => none)[k]? = some o from ho)
    obtain ⟨_, _, rfl⟩ := List.mem_map.1 this
    exact lenO_none n
  | none =>
   rw [hq] at ho
   simp only at ho
   cases k with
   | zero =>
    cases h; cases ho
    intro v hv
    cases hv
    exact hn t
   | succ k => exact partsG_lens (k := k) h hn ho
theorem partsS_lens {fs : List (Tr → Ans)} {t : Tr} {k n : Nat} {f : Tr → Ans} {o : Option (List AV)} (h : fs[k]? = some f) (hn : ∀ t, (f t).1.length = n) (ho : (partsS fs t).1[k]? = some o) : lenO o n := by
 unfold partsS at ho
 split at ho
 · exact partsG_lens h hn ho
 · have := List.mem_of_getElem? ho
   obtain ⟨_, _, rfl⟩ := List.mem_map.1 this
   exact lenO_none n
theorem putCells_set : ∀ (v cs : List AV) (off k : Nat) (x : AV), k < off ∨ off + v.length ≤ k → (putCells cs off v).set k x = putCells (cs.set k x) off v
 | [], cs, off, k, x, _ => rfl
 | c :: v, cs, off, k, x, h => by
  show (putCells (cs.set off c) (off + 1) v).set k x = putCells ((cs.set k x).set off c) (off + 1) v
  rw [putCells_set v _ (off + 1) k x (by simp at h; omega), List.set_comm _ _ (by simp at h; omega)]
theorem putO_set {cs : List AV} {off k n : Nat} {o : Option (List AV)} {x : AV} (ho : lenO o n) (h : k < off ∨ off + n ≤ k) : (putO cs off (some o)).set k x = putO (cs.set k x) off (some o) := by
 cases o with
 | none => rfl
 | some v =>
  have := ho v rfl
  exact putCells_set v cs off k x (by omega)
theorem headS_len {t : Tr} (hf : fineT t) : (headS t).length ≤ 1000000 := by
 unfold headS
 split
 · rename_i a w b c l d
   exact (fineL_mem hf.2 (List.mem_cons_self ..)).1.1
 · simp
theorem headS_ne {t : Tr} (h : headS t ≠ []) : 1 ≤ t.kids.length := by
 unfold headS at h
 split at h
 · simp [Tr.kids]
 · exact absurd rfl h
theorem formS_m {w : List UInt8} {k : Nat} {m : Int} (h : formS w = some (k, m)) : (m = -1 ∨ m = 1 ∨ m = 2) ∧ w ≠ [] := by
 unfold formS at h
 repeat' split at h
 all_goals first | (cases h; subst_vars; refine ⟨by omega, by simp⟩) | cases h
theorem funcOk_ne {w : List UInt8} (h : funcOk w = true) : w ≠ [] := by
 rintro rfl
 simp [funcOk, cutDot] at h
end
end Go.Proofs.YtkkblmdgedmdfaaGreatDoor
