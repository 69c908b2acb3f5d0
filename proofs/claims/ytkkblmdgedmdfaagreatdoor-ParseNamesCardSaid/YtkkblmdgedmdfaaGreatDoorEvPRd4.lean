/-
 EV: parse: term (printed by gen_rd4.py).
-/
import Derived.Test.YtkkblmdgedmdfaaGreatDoorEvPRest2
import Derived.Test.YtkkblmdgedmdfaaGreatDoorEvPRd2M
import Derived.Test.YtkkblmdgedmdfaaGreatDoorEvPWordM
import Derived.Test.YtkkblmdgedmdfaaGreatDoorEvPRd3M
namespace Go.Proofs.YtkkblmdgedmdfaaGreatDoor
set_option linter.unusedSimpArgs false
set_option linter.unusedVariables false
open Go.RowKit
set_option maxRecDepth 100000 in
set_option maxHeartbeats 4000000 in
theorem term_rd (N : Nat) : RdOk N .term := by
 intro t fid σ hf hn hc
 show JC _ _ 27 _ _ _
 refine JC.startW (fn := Tryz.f27) (M := [39]) rfl rfl rfl (by simp) fun tm hlen hs => ?_
 have h0 := hs 0 _ rfl
 clear hs
 rw [nodeA_eq] at h0
 simp at hlen
 refine CW.hide fun R0 hR0 => ?_
 have hfl := lt_of_obj hc
 refine CW.seqK fun K hK => CW.region ?_
 simp (maxDischargeDepth := 16) [symB, List.length_set, andThen, hlen, h0]
 refine hK _ _ ?_; clear hK K
 refine CW.reset2 (fun tm σ1 => tm.length = 99 ∧ slot tm 1 = .ptr σ.length 0 ∧ slot tm 2 = .ptr (σ.length + 1) 0 ∧ σ1 = σ ++ [nodeO t fid, .cells [.lit (.int .u8 0), .lit (.string ⟨#[]⟩), .lit (.bool false), .sl [] .full, .sl [] .full] 41]) ⟨by simp [hlen], by simp [slot_eq, slot_ne, hlen], by simp [slot_eq, slot_ne, hlen], rfl⟩ ?_
 clear h0 hlen tm
 rintro tm σ0 ⟨hlen, h1, h2, hσ0⟩
 have hb0 : σ0[σ.length]? = some (.cells [.lit (.string (bs t.word)), .sl (rowsOf t.kids) .no, .lit (.bool t.row), .lit (.int .i64 t.at_), .ptr fid 0] 57) := by rw [hσ0]; exact get_new _ _ _
 have hp : σ0[σ.length + 1]? = some (.cells [.lit (.int .u8 0), .lit (.string ⟨#[]⟩), .lit (.bool false), .sl [] .full, .sl [] .full] 41) := by rw [hσ0]; exact get_new1 _ _ _ _
 have hx0 : Ext σ σ0 := by rw [hσ0]; exact ⟨_, rfl⟩
 have hc0 : σ0[fid]? = some cleanO := by rw [hσ0]; exact get_app hc
 have hl0 : σ0.length = σ.length + 2 := by rw [hσ0]; simp
 clear hσ0
 have hkl : (rowsOf t.kids).length = t.kids.length := rowsOf_length _
 refine CW.seqK fun KA hKA => ?_
 refine CW.seqK fun KB hKB => CW.region ?_
 cases hrow : t.row with
 | false =>
  rw [hrow] at hb0
  simp (maxDischargeDepth := 16) [symB, List.length_set, andThen, hlen, h1, hb0]
  rw [← hrow] at hb0
  refine hKB _ _ ?_; clear hKB KB
  refine CW.cond (t := true) (by simp [evx_tmp, slot_eq, slot_ne, hlen]) ?_
  have hrd : rd (N + 1) .term t = wordS t := by
   show (if _ then _ else _) = _
   rw [hrow]; rfl
  have hne : σ.length + 1 ≠ fid := by omega
  refine CW.seqK fun K hK => CW.region ?_
  simp (maxDischargeDepth := 16) [symB, List.length_set, andThen, hlen, h1, h2, hb0]
  rw [← nodeA_eq]
  refine (word_ev N t fid σ0 hf (by simp [rank] at hn ⊢; omega) hrow hc0).mono ?_
  rintro r σ2 ⟨v, rfl, hvl, hz, hx2⟩
  have hp2 := hx2.get ((setF_ne _ hne).trans hp)
  have htk : List.take 5 v = v := List.take_of_length_le (by omega)
  have htp : putCells [.lit (.int .u8 0), .lit (.string ⟨#[]⟩), .lit (.bool false), .sl [] .full, .sl [] .full] 0 v = v := by have := putCells_app v [.lit (.int .u8 0), .lit (.string ⟨#[]⟩), .lit (.bool false), .sl [] .full, .sl [] .full] [] (by rw [hvl]; rfl); simpa using this
  have hxv := (setF_ext _ hx0 hfl).trans hx2
  rw [← hrd] at hxv hz
  have hxs : ∀ o, Ext _ (σ2.set (σ.length + 1) o) := fun o => hxv.set (by rw [setF_len]; omega)
  have hsr : ∀ o, (σ2.set (σ.length + 1) o)[σ.length + 1]? = some o := fun o => List.getElem?_set_self (lt_of_obj hp2)
  simp (maxDischargeDepth := 16) [symB, List.length_set, retK, andThen, hlen, h1, h2, hp2, hvl, htp]
  refine hK _ _ ?_; clear hK K
  refine CW.ret (hR0 _ _ _ ⟨.agg v, ?_, fgt_of (hxs _) hc (hz _ _).agg⟩)
  simp [resultsA, omap, res_tmp, res_cell, slot_eq, slot_ne, hlen, h2, hsr, partA, aggT, hvl, htk]
 | true =>
  rw [hrow] at hb0
  simp (maxDischargeDepth := 16) [symB, List.length_set, andThen, hlen, h1, hb0]
  rw [← hrow] at hb0
  refine hKB _ _ ?_; clear hKB KB
  refine CW.cond (t := false) (by simp [evx_tmp, slot_eq, slot_ne, hlen]) ?_
  refine CW.skip ?_
  simp only [andThen]
  refine hKA _ _ ?_; clear hKA KA
  refine CW.seqK fun KB hKB => CW.region ?_
  simp (maxDischargeDepth := 16) [symB, List.length_set, andThen, hlen, h1, hb0]
  rw [← nodeA_eq]
  refine (head_ev N t fid σ0 (fineT_k hf)).mono ?_
  rintro r σh ⟨rfl, hxh⟩
  replace hb0 := hxh.get hb0
  replace hp := hxh.get hp
  replace hc0 := hxh.get hc0
  replace hl0 : σ.length + 2 ≤ σh.length := by have := hxh.len; omega
  replace hx0 := hx0.trans hxh
  clear hxh
  have htl : (bs (headS t)).toList = headS t := bs_list _
  simp (maxDischargeDepth := 16) [symB, List.length_set, retK, andThen, hlen, strA]
  refine hKB _ _ ?_; clear hKB KB
  refine CW.reset2 (fun tm σ1 => tm.length = 99 ∧ slot tm 1 = .ptr σ.length 0 ∧ slot tm 2 = .ptr (σ.length + 1) 0 ∧ slot tm 3 = .lit (.string (bs (headS t))) ∧ σh = σ1) ⟨by simp [hlen], by simp [slot_ne, h1], by simp [slot_ne, h2], by simp [slot_eq, slot_ne, hlen], rfl⟩ ?_
  clear h1 h2 hlen tm
  rintro tm σx ⟨hlen, h1, h2, h3, rfl⟩
  refine CW.seqK fun KM hKM => ?_
  refine CW.block ?_
  refine CW.seqK fun KT hKT => CW.region ?_
  have no : ¬ headS t = [42] → ∀ tm : List AV, tm.length = 99 → slot tm 1 = .ptr σ.length 0 → slot tm 2 = .ptr (σ.length + 1) 0 → slot tm 3 = .lit (.string (bs (headS t))) → slot tm 14 = .lit (.bool false) → KT tm σh := by
   intro hcn tm hlen h1 h2 h3 hT
   refine hKT _ _ ?_; clear hKT KT
   refine CW.cond (t := false) (by simp [evx_tmp, slot_eq, slot_ne, hlen, hT]) ?_
   have c1 := hcn
   refine CW.seqK fun KT hKT => CW.region ?_
   have no : ¬ (headS t = [107, 97, 112, 112, 97] ∧ 2 ≤ t.kids.length) → ∀ tm : List AV, tm.length = 99 → slot tm 1 = .ptr σ.length 0 → slot tm 2 = .ptr (σ.length + 1) 0 → slot tm 3 = .lit (.string (bs (headS t))) → slot tm 30 = .lit (.bool false) → KT tm σh := by
    intro hcn tm hlen h1 h2 h3 hT
    refine hKT _ _ ?_; clear hKT KT
    refine CW.cond (t := false) (by simp [evx_tmp, slot_eq, slot_ne, hlen, hT]) ?_
    have c2 := hcn
    refine CW.skip ?_
    simp only [outOf, andThen]
    refine hKM _ _ ?_; clear hKM KM
    refine CW.seqK fun K hK => CW.region ?_
    have hu172 : Tryz.prog.underlying 172 = some (.map 9 170) := by kernel_rfl
    have hu9 : (Tryz.prog.underlying 9).bind kkOf = some .str := by kernel_rfl
    have hz170 : ((Tryz.prog.info? 170).bind (·.zero)).bind abs2 = some (.agg [.lit (.int .u8 0), .lit (.int .i64 0)]) := by kernel_rfl
    have hmk := fun (M : List TypeId) (ρ : Operand → Option AV) (σ : Sto) (ds : Option Tmp) (ty : TypeId) (po : String) (af : Array Edge) (gu : Option (Nat × Bool)) => es_mk (P := Tryz.prog) (M := M) (ρ := ρ) (σ := σ) (ds := ds) (ty := ty) (po := po) (af := af) (gu := gu) hu172 hu9
    have hL : (if headS t = [43] then some (AV.agg [AV.lit (Value.int IntKind.u8 5), AV.lit (Value.int IntKind.i64 (-1))]) else if headS t = [61] then some (AV.agg [AV.lit (Value.int IntKind.u8 8), AV.lit (Value.int IntKind.i64 2)]) else if headS t = [60, 61] then some (AV.agg [AV.lit (Value.int IntKind.u8 9), AV.lit (Value.int IntKind.i64 2)]) else if headS t = [110, 111, 116] then some (AV.agg [AV.lit (Value.int IntKind.u8 10), AV.lit (Value.int IntKind.i64 1)]) else if headS t = [97, 110, 100] then some (AV.agg [AV.lit (Value.int IntKind.u8 11), AV.lit (Value.int IntKind.i64 (-1))]) else if headS t = [111, 114] then some (AV.agg [AV.lit (Value.int IntKind.u8 12), AV.lit (Value.int IntKind.i64 (-1))]) else if headS t = [105, 102, 102] then some (AV.agg [AV.lit (Value.int IntKind.u8 13), AV.lit (Value.int IntKind.i64 2)]) else none) = (formS (headS t)).map fun p => AV.agg [.lit (.int .u8 p.1), .lit (.int .i64 p.2)] := by
     unfold formS
     repeat' split
     all_goals rfl
    have hrd0 : rd (N + 1) .term t = match formS (headS t) with
          | some (k, m) => if 0 ≤ m ∧ (t.kids.length : Int) ≠ m + 1 then (termZ, some t.at_) else
              (u8A k :: strA [] :: intZ ++ [rowsA' (restS (rd N .term) (t.kids.drop 1)).1], (restS (rd N .term) (t.kids.drop 1)).2)
          | none => if funcOk (headS t) ∧ t.kids.length = 2 then
              (u8A 7 :: strA (headS t) :: intZ ++ [rowsA' (restS (rd N .term) (t.kids.drop 1)).1], (restS (rd N .term) (t.kids.drop 1)).2)
           else (termZ, some t.at_) := by
     show (if _ then _ else if _ then _ else if _ then _ else _) = _
     rw [hrow, if_neg (by simp), if_neg c1, if_neg c2]
     rfl
    have hne : σ.length + 1 ≠ fid := by omega
    have hne0 : σ.length ≠ fid := by omega
    have hxm0 := hx0
    have mid : ∀ (ok : Bool) (k : Nat) (m : Int) (tm : List AV) (σm : Sto), tm.length = 99 → slot tm 1 = .ptr σ.length 0 → slot tm 2 = .ptr (σ.length + 1) 0 → slot tm 3 = .lit (.string (bs (headS t))) → slot tm 4 = .ptr (σh.length + 1) 0 → slot tm 5 = .lit (.bool ok) → Ext σh σm → σm[σh.length + 1]? = some (.cells [.lit (.int .u8 k), .lit (.int .i64 m)] 170) → σm.length = σh.length + 2 →
        (ok = true → (m = -1 ∨ m = 1 ∨ m = 2) ∧ 1 ≤ t.kids.length ∧ rd (N + 1) .term t = if 0 ≤ m ∧ (t.kids.length : Int) ≠ m + 1 then (termZ, some t.at_) else (u8A k :: strA [] :: intZ ++ [rowsA' (restS (rd N .term) (t.kids.drop 1)).1], (restS (rd N .term) (t.kids.drop 1)).2)) →
        (ok = false → rd (N + 1) .term t = if funcOk (headS t) ∧ t.kids.length = 2 then (u8A 7 :: strA (headS t) :: intZ ++ [rowsA' (restS (rd N .term) (t.kids.drop 1)).1], (restS (rd N .term) (t.kids.drop 1)).2) else (termZ, some t.at_)) → K tm σm := by
     intro ok k m tm σm hlen h1 h2 h3 h4 h5 hem hsh hlm Hok Hno
     have hb := hem.get hb0
     have hpm := hem.get hp
     have hcm := hem.get hc0
     have hxm := hx0.trans hem
     refine hK _ _ ?_; clear hK K
     refine CW.seqK fun KR hKR => ?_
     have tl : ∀ (s : List UInt8) (k : Nat) (m : Int) (tm : List AV) (σm : Sto), tm.length = 99 → slot tm 1 = .ptr σ.length 0 → slot tm 2 = .ptr (σ.length + 1) 0 → slot tm 4 = .ptr (σh.length + 1) 0 → slot tm 5 = .lit (.bool true) → σm[σ.length]? = some (.cells [.lit (.string (bs t.word)), .sl (rowsOf t.kids) .no, .lit (.bool t.row), .lit (.int .i64 t.at_), .ptr fid 0] 57) → σm[σ.length + 1]? = some (.cells [.lit (.int .u8 0), .lit (.string (bs s)), .lit (.bool false), .sl [] .full, .sl [] .full] 41) → σm[fid]? = some cleanO → Ext σ σm → σm[σh.length + 1]? = some (.cells [.lit (.int .u8 k), .lit (.int .i64 m)] 170) → σm.length = σh.length + 2 →
         (m = -1 ∨ m = 1 ∨ m = 2) → 1 ≤ t.kids.length → (rd (N + 1) .term t = if 0 ≤ m ∧ (t.kids.length : Int) ≠ m + 1 then (termZ, some t.at_) else (u8A k :: strA s :: intZ ++ [rowsA' (restS (rd N .term) (t.kids.drop 1)).1], (restS (rd N .term) (t.kids.drop 1)).2)) → KR tm σm := by
      intro s k m tm σm hlen h1 h2 h4 h5 hb hpm hcm hxm hsh hlm hm hle hrd
      have hwm : IntKind.i64.wrap (m + 1) = m + 1 := by rcases hm with rfl | rfl | rfl <;> rfl
      refine hKR _ _ ?_; clear hKR KR
      refine CW.seqK fun KQ hKQ => ?_
      refine CW.seqK fun KB hKB => CW.region ?_
      have go : ¬ (0 ≤ m ∧ (t.kids.length : Int) ≠ m + 1) → ∀ tm : List AV, tm.length = 99 → slot tm 1 = .ptr σ.length 0 → slot tm 2 = .ptr (σ.length + 1) 0 → slot tm 4 = .ptr (σh.length + 1) 0 → slot tm 88 = .lit (.bool false) → KB tm σm := by
       intro hg tm hlen h1 h2 h4 h88
       rw [if_neg hg] at hrd
       refine hKB _ _ ?_; clear hKB KB
       refine CW.cond (t := false) (by simp [evx_tmp, slot_eq, slot_ne, hlen, h88]) ?_
       refine CW.skip ?_
       simp only [andThen]
       refine hKQ _ _ ?_; clear hKQ KQ
       refine CW.seqK fun K2 hK2 => CW.draw (by kernel_rfl) ?_
       simp (maxDischargeDepth := 16) [symB, List.length_set, andThen, hlen, h1, h2, h4, hb, hsh]
       rw [← nodeA_eq]
       refine (rest_term_ev N .term rfl (src := 1) (fineT_l hf) (fun u hu => by have := size_kid hu; simp [rank] at hn ⊢; omega) hcm (fineT_k hf) hle).mono ?_
       rintro r σr ⟨tok, rfl, hxr⟩
       have hokq : okR (restS (rd N .term) (t.kids.drop 1)).1 := okR_rest fun u => rd_ok N .term u
       generalize restS (rd N .term) (t.kids.drop 1) = q at *
       have hcf : σh.length + 1 ≠ fid := by omega
       have hpr := hxr.get ((setF_ne _ hne).trans hpm)
       have k1 := keptB_of (σ := σm) (hpr.trans hpm.symm)
       have k2 := keptB_of (σ := σm) ((hxr.get ((setF_ne _ hcf).trans hsh)).trans hsh.symm)
       have k3 := keptB_of (σ := σm) ((hxr.get ((setF_ne _ hne0).trans hb)).trans hb.symm)
       have hsr : ∀ o, (σr.set (σ.length + 1) o)[σ.length + 1]? = some o := fun o => List.getElem?_set_self (lt_of_obj hpr)
       have hxs : ∀ o, Ext (setF σ fid q.2) (σr.set (σ.length + 1) o) := fun o => ((setF_ext _ hxm hfl).trans hxr).set (by rw [setF_len]; omega)
       simp (maxDischargeDepth := 16) [symB, List.length_set, retK, andThen, hlen, h1, h2, hpr, hsr, List.set_set]
       refine ⟨drawOk_sim [σ.length + 1, σh.length + 1, σ.length] [.pure, .reads 1, .reads 2, .calls 3 fun _ => true, .pure, .writes 0, .pure, .writes 0] (.cons (by simp; omega) (.cons (by simp; omega) (.cons (by simp) .nil))) ?_ (by kernel_rfl), ?_⟩
       · refine .cons .pure (.cons (.reads 1 _ rfl) (.cons (.reads 2 _ rfl) (.cons (.keeps fun x hx => ?_) (.cons .pure (.cons (.writes 0 _ rfl) (.cons .pure (.cons (.writes 0 _ rfl) .nil)))))))
         have hll := hxm.len
         simp at hx
         rcases hx with rfl | rfl | rfl
         · exact ⟨by simp [k1], by omega⟩
         · exact ⟨by simp [k2], by omega⟩
         · exact ⟨by simp [k3], by omega⟩
       refine hK2 _ _ ?_; clear hK2 K2
       have hvl : ([.lit (.int .u8 k), .lit (.string (bs s)), .lit (.bool false), .sl [] .full, .sl q.1 tok] : List AV).length = 5 := rfl
       have hz : ∀ σ'' n, FrzL σ'' n [.lit (.int .u8 k), .lit (.string (bs s)), .lit (.bool false), .sl [] .full, .sl q.1 tok] (rd (N + 1) .term t).1 := fun _ _ => by rw [hrd]; exact .cons (.lit _) (.cons (.lit _) (.cons (.lit _) (.cons (.nil _) (.cons (.okR hokq tok) .nil))))
       have hxv : Ext (setF σ fid (rd (N + 1) .term t).2) (σr.set (σ.length + 1) (.cells [.lit (.int .u8 k), .lit (.string (bs s)), .lit (.bool false), .sl [] .full, .sl q.1 tok] 41)) := by rw [hrd]; exact hxs _
       have hpv0 := hsr (.cells [.lit (.int .u8 k), .lit (.string (bs s)), .lit (.bool false), .sl [] .full, .sl q.1 tok] 41)
       clear hsr hxs
       generalize ([.lit (.int .u8 k), .lit (.string (bs s)), .lit (.bool false), .sl [] .full, .sl q.1 tok] : List AV) = v at *
       generalize σr.set (σ.length + 1) (.cells v 41) = σ' at *
       have htk : List.take 5 v = v := List.take_of_length_le (by omega)
       have hxs : ∀ o, Ext _ (σ'.set (σ.length + 1) o) := fun o => hxv.set (by rw [setF_len]; omega)
       have hsr : ∀ o, (σ'.set (σ.length + 1) o)[σ.length + 1]? = some o := fun o => List.getElem?_set_self (lt_of_obj hpv0)
       have hpv : putCells v 0 v = v := by have := putCells_app v v [] rfl; simpa using this
       refine CW.seqK fun K hK => CW.region ?_
       simp (maxDischargeDepth := 16) [symB, List.length_set, andThen, hlen, h2, hpv0, hvl, htk, hpv]
       refine hK _ _ ?_; clear hK K
       refine CW.ret (hR0 _ _ _ ⟨.agg v, ?_, fgt_of (hxs _) hc (hz _ _).agg⟩)
       simp [resultsA, omap, res_tmp, res_cell, slot_eq, slot_ne, hlen, h2, hsr, partA, aggT, hvl, htk]
      rcases Classical.em (0 ≤ m ∧ (t.kids.length : Int) ≠ m + 1) with hbad | hgood
      · have a := hbad.1
        have b := hbad.2
        rw [if_pos hbad] at hrd
        simp (maxDischargeDepth := 16) [symB, List.length_set, andThen, hlen, h1, h4, h5, hb, hsh, hkl, a, b, hwm]
        refine hKB _ _ ?_; clear hKB KB go
        refine CW.cond (t := true) (by simp [evx_tmp, slot_eq, slot_ne, hlen, a, b]) ?_
        refine CW.seqK fun K2 hK2 => CW.region ?_
        simp (maxDischargeDepth := 16) [symB, List.length_set, andThen, hlen, h1, hb]
        rw [← nodeA_eq]
        refine (fault_ev N t fid σm hcm).mono ?_
        rintro r σr ⟨rfl, hxr⟩
        have hpr := hxr.get ((setF_ne _ hne).trans hpm)
        have hsr : ∀ o, (σr.set (σ.length + 1) o)[σ.length + 1]? = some o := fun o => List.getElem?_set_self (lt_of_obj hpr)
        have hxs : ∀ o, Ext (setF σ fid (rd (N + 1) .term t).2) (σr.set (σ.length + 1) o) := fun o => by rw [hrd]; exact ((setF_ext _ hxm hfl).trans hxr).set (by rw [setF_len]; omega)
        simp (maxDischargeDepth := 16) [symB, List.length_set, retK, andThen, hlen]
        refine hK2 _ _ ?_; clear hK2 K2
        refine CW.seqK fun K2 hK2 => CW.region ?_
        simp (maxDischargeDepth := 16) [symB, List.length_set, andThen, hlen, h2, hpr]
        refine hK2 _ _ ?_; clear hK2 K2
        refine CW.ret (hR0 _ _ _ ⟨.agg [.lit (.int .u8 0), .lit (.string ⟨#[]⟩), .lit (.bool false), .sl [] .full, .sl [] .full], ?_, fgt_of (hxs _) hc (show FrzL _ _ _ _ by rw [hrd]; exact (show FrzL _ _ [.lit (.int .u8 0), .lit (.string ⟨#[]⟩), .lit (.bool false), .sl [] .full, .sl [] .full] termZ from (.cons (.lit _) (.cons (.lit _) (.cons (.lit _) (.cons (.nil _) (.cons (.nil _) .nil))))))).agg⟩)
        simp [resultsA, omap, res_tmp, res_cell, slot_eq, slot_ne, hlen, h2, hsr, partA, aggT]
      · rcases Classical.em (0 ≤ m) with a | a
        · have b : (t.kids.length : Int) = m + 1 := Classical.byContradiction fun b => hgood ⟨a, b⟩
          simp (maxDischargeDepth := 16) [symB, List.length_set, andThen, hlen, h1, h4, h5, hb, hsh, hkl, a, b, hwm]
          exact go hgood _ (by simp [hlen]) (by simp [slot_ne, h1]) (by simp [slot_ne, h2]) (by simp [slot_ne, h4]) (by simp [slot_eq, slot_ne, hlen, a, b])
        · simp (maxDischargeDepth := 16) [symB, List.length_set, andThen, hlen, h1, h4, h5, hb, hsh, hkl, a, hwm]
          exact go hgood _ (by simp [hlen]) (by simp [slot_ne, h1]) (by simp [slot_ne, h2]) (by simp [slot_ne, h4]) (by simp [slot_eq, slot_ne, hlen, a])
     refine CW.seqK fun KB hKB => CW.region ?_
     cases ok with
     | true =>
      obtain ⟨hm, hle, hrd⟩ := Hok rfl
      simp (maxDischargeDepth := 16) [symB, List.length_set, andThen, hlen, h5]
      refine hKB _ _ ?_; clear hKB KB
      refine CW.cond (t := false) (by simp [evx_tmp, slot_eq, slot_ne, hlen]) ?_
      refine CW.skip ?_
      simp only [andThen]
      exact tl [] k m _ _ (by simp [hlen]) (by simp [slot_ne, h1]) (by simp [slot_ne, h2]) (by simp [slot_ne, h4]) (by simp [slot_ne, h5]) hb hpm hcm hxm hsh hlm hm hle hrd
     | false =>
      have hrd := Hno rfl
      simp (maxDischargeDepth := 16) [symB, List.length_set, andThen, hlen, h3, h5]
      refine CallW.prim (g := primFun) rfl (primFun_eq (headS t) _ (headS_len hf)) ?_
      cases hfo : funcOk (headS t) with
      | true =>
       simp (maxDischargeDepth := 16) [symB, List.length_set, retK, andThen, hlen, boolA]
       refine hKB _ _ ?_; clear hKB KB
       refine CW.cond (t := true) (by simp [evx_tmp, slot_eq, slot_ne, hlen]) ?_
       refine CW.region ?_
       have hs1 : ∀ o, (σm.set (σh.length + 1) o)[σ.length + 1]? = _ := fun o => (List.getElem?_set_ne (by omega)).trans hpm
       have hs2 : ∀ o p, ((σm.set (σh.length + 1) o).set (σ.length + 1) p)[σ.length + 1]? = some p := fun o p => List.getElem?_set_self (lt_of_obj (hs1 o))
       have hs3 : ∀ o p, ((σm.set (σh.length + 1) o).set (σ.length + 1) p)[σh.length + 1]? = some o := fun o p => (List.getElem?_set_ne (by omega)).trans (List.getElem?_set_self (lt_of_obj hsh))
       have hs4 : ∀ o p, ((σm.set (σh.length + 1) o).set (σ.length + 1) p)[σ.length]? = _ := fun o p => (List.getElem?_set_ne (by omega)).trans ((List.getElem?_set_ne (by omega)).trans hb)
       have hs5 : ∀ o p, ((σm.set (σh.length + 1) o).set (σ.length + 1) p)[fid]? = _ := fun o p => (List.getElem?_set_ne (by omega)).trans ((List.getElem?_set_ne (by omega)).trans hcm)
       simp (maxDischargeDepth := 16) [symB, List.length_set, andThen, hlen, h2, h3, h4, hsh, hpm, hs1]
       refine tl (headS t) 7 1 _ _ (by simp [hlen]) (by simp [slot_ne, h1]) (by simp [slot_ne, h2]) (by simp [slot_ne, h4]) (by simp [slot_eq, slot_ne, hlen]) (hs4 _ _) (hs2 _ _) (hs5 _ _) ((hxm.set (by omega)).set (by omega)) (hs3 _ _) (by simp [hlm]) (by omega) (headS_ne (funcOk_ne hfo)) ?_
       rw [hrd, hfo]
       rcases Classical.em (t.kids.length = 2) with e | e
       · rw [if_pos ⟨rfl, e⟩, if_neg (by omega)]
       · rw [if_neg (fun h => e h.2), if_pos (by omega)]
      | false =>
       rw [hfo, if_neg (by simp)] at hrd
       simp (maxDischargeDepth := 16) [symB, List.length_set, retK, andThen, hlen, boolA]
       refine hKB _ _ ?_; clear hKB KB
       refine CW.cond (t := false) (by simp [evx_tmp, slot_eq, slot_ne, hlen]) ?_
       refine CW.skip ?_
       simp only [andThen]
       refine hKR _ _ ?_; clear hKR KR tl
       refine CW.seqK fun KQ hKQ => ?_
       refine CW.seqK fun KB hKB => CW.region ?_
       simp (maxDischargeDepth := 16) [symB, List.length_set, andThen, hlen, h5]
       refine hKB _ _ ?_; clear hKB KB
       refine CW.cond (t := true) (by simp [evx_tmp, slot_eq, slot_ne, hlen]) ?_
       refine CW.seqK fun K2 hK2 => CW.region ?_
       simp (maxDischargeDepth := 16) [symB, List.length_set, andThen, hlen, h1, hb]
       rw [← nodeA_eq]
       refine (fault_ev N t fid σm hcm).mono ?_
       rintro r σr ⟨rfl, hxr⟩
       have hpr := hxr.get ((setF_ne _ hne).trans hpm)
       have hsr : ∀ o, (σr.set (σ.length + 1) o)[σ.length + 1]? = some o := fun o => List.getElem?_set_self (lt_of_obj hpr)
       have hxs : ∀ o, Ext (setF σ fid (rd (N + 1) .term t).2) (σr.set (σ.length + 1) o) := fun o => by rw [hrd]; exact ((setF_ext _ hxm hfl).trans hxr).set (by rw [setF_len]; omega)
       simp (maxDischargeDepth := 16) [symB, List.length_set, retK, andThen, hlen]
       refine hK2 _ _ ?_; clear hK2 K2
       refine CW.seqK fun K2 hK2 => CW.region ?_
       simp (maxDischargeDepth := 16) [symB, List.length_set, andThen, hlen, h2, hpr]
       refine hK2 _ _ ?_; clear hK2 K2
       refine CW.ret (hR0 _ _ _ ⟨.agg [.lit (.int .u8 0), .lit (.string ⟨#[]⟩), .lit (.bool false), .sl [] .full, .sl [] .full], ?_, fgt_of (hxs _) hc (show FrzL _ _ _ _ by rw [hrd]; exact (show FrzL _ _ [.lit (.int .u8 0), .lit (.string ⟨#[]⟩), .lit (.bool false), .sl [] .full, .sl [] .full] termZ from (.cons (.lit _) (.cons (.lit _) (.cons (.lit _) (.cons (.nil _) (.cons (.nil _) .nil))))))).agg⟩)
       simp [resultsA, omap, res_tmp, res_cell, slot_eq, slot_ne, hlen, h2, hsr, partA, aggT]
    cases hfm : formS (headS t) with
    | none =>
     rw [hfm] at hL hrd0
     simp (maxDischargeDepth := 16) [symB, List.length_set, andThen, hlen, h1, h2, h3, hmk, hu172, hu9, get_new, get_new1, set_new, data_bs, hL]
     exact mid false 0 0 _ _ (by simp [hlen]) (by simp [slot_ne, h1]) (by simp [slot_ne, h2]) (by simp [slot_ne, h3]) (by simp [slot_eq, slot_ne, hlen]) (by simp [slot_eq, slot_ne, hlen]) ⟨_, rfl⟩ (get_new1 _ _ _ _) (by simp) (fun h => by cases h) fun _ => hrd0
    | some p =>
     rw [hfm] at hL hrd0
     obtain ⟨k, m⟩ := p
     obtain ⟨hm, hnn⟩ := formS_m hfm
     simp (maxDischargeDepth := 16) [symB, List.length_set, andThen, hlen, h1, h2, h3, hmk, hu172, hu9, get_new, get_new1, set_new, data_bs, hL]
     exact mid true k m _ _ (by simp [hlen]) (by simp [slot_ne, h1]) (by simp [slot_ne, h2]) (by simp [slot_ne, h3]) (by simp [slot_eq, slot_ne, hlen]) (by simp [slot_eq, slot_ne, hlen]) ⟨_, rfl⟩ (get_new1 _ _ _ _) (by simp) (fun _ => ⟨hm, headS_ne hnn, hrd0⟩) (fun h => by cases h)
   have ht1 : (⟨#[107, 97, 112, 112, 97]⟩ : ByteArray).toList = [107, 97, 112, 112, 97] := bs_list [107, 97, 112, 112, 97]
   rcases Classical.em (headS t = [107, 97, 112, 112, 97]) with e | e
   · rcases Classical.em (2 ≤ t.kids.length) with m | m
     · have m' : (2 : Int) ≤ t.kids.length := by omega
       simp (maxDischargeDepth := 16) [symB, List.length_set, andThen, hlen, h1, h2, h3, hb0, hkl, htl, ht1, e, bs_list, m, m']
       refine hKT _ _ ?_; clear no hKT KT
       refine CW.cond (t := true) (by simp [evx_tmp, slot_eq, slot_ne, hlen, e, bs_list, m, m']) ?_
       have hkl1 : 1 < t.kids.length := by omega
       have hget : t.kids[1]? = some t.kids[1] := List.getElem?_eq_getElem hkl1
       have hmem := List.getElem_mem hkl1
       have hka : kidAt t 1 = t.kids[1] := by unfold kidAt; rw [List.getD_eq_getElem?_getD, hget]; rfl
       have hrd : rd (N + 1) .term t = (u8A 14 :: (rd N .name t.kids[1]).1 ++ intZ ++ [rowsA' (restO (rd N .name t.kids[1]).2 (rd N .term) (t.kids.drop 2)).1], (restO (rd N .name t.kids[1]).2 (rd N .term) (t.kids.drop 2)).2) := by
        show (if _ then _ else if _ then _ else if _ then _ else _) = _
        rw [hrow, if_neg (by simp), if_neg c1, if_pos ⟨e, m⟩, hka]
       generalize t.kids[1] = u at *
       refine CW.seqK fun KB hKB => CW.region ?_
       simp (maxDischargeDepth := 16) [symB, List.length_set, andThen, outOf, hlen, h1, h2, h3, hb0]
       rw [← nodeA_eq]
       refine (kid_ev N hget (fineT_k hf)).mono ?_
       rintro r σ2 ⟨rfl, hx2⟩
       have hp2 := hx2.get hp
       have hb2 := hx2.get hb0
       have hc2 := hx2.get hc0
       have hx02 := hx0.trans hx2
       have hl2 := hx2.len
       have hsz := size_kid hmem
       simp (maxDischargeDepth := 16) [symB, List.length_set, retK, andThen, outOf, hlen, h1, h2, h3, hp2]
       refine rd_ev (N := N) .name (fineL_mem (fineT_l hf) hmem) (by simp [rank] at hn ⊢; omega) hc2 ?_
       have hrk : rank .name ≤ N := by simp [rank] at hn ⊢; omega
       have hvc := (valR_cells (t := u) hrk).1
       have hvt := (valR_cells (t := u) hrk).2
       have hvl := rd_len N .name u hrk
       have hok := rd_ok N .name u
       simp only [lenR] at hvl
       have hne : σ.length + 1 ≠ fid := by omega
       have hne0 : σ.length ≠ fid := by omega
       generalize (rd N .name u).1 = av at *
       generalize (rd N .name u).2 = ao at *
       have hr4 := (setF_ne ao hne).trans hp2
       have hb4 := (setF_ne ao hne0).trans hb2
       have hx4 := setF_ext ao hx02 hfl
       generalize setF σ2 fid ao = σ4 at *
       have hs4 : ∀ o, (σ4.set (σ.length + 1) o)[σ.length + 1]? = some o := fun o => List.getElem?_set_self (lt_of_obj hr4)
       have hxs4 : ∀ o, Ext (setF σ fid ao) (σ4.set (σ.length + 1) o) := fun o => hx4.set (by rw [setF_len]; omega)
       have hbs4 : ∀ o, (σ4.set (σ.length + 1) o)[σ.length]? = _ := fun o => (List.getElem?_set_ne (by omega)).trans hb4
       generalize valR .name av = vv at *
       have hav : ∃ c, av = [c] := by match av, hvl with | [c], _ => exact ⟨c, rfl⟩
       refine Classical.byContradiction fun hno => ?_
       obtain ⟨c, rfl⟩ := hav
       have hcz : ∀ σ'' k, Frz σ'' k c c := fun _ _ => Frz.still (hok c (by simp)).2.1
       refine hno ?_; clear hno
       simp (maxDischargeDepth := 16) [symB, List.length_set, retK, andThen, outOf, hlen, h1, h2, h3, hvc, hvt, hvl, hr4, hs4, List.set_set]
       refine hKB _ _ ?_; clear hKB KB
       have hzW : ∀ σ'' k, FrzL σ'' k ([.lit (.int .u8 14), c, .lit (.bool false), .sl [] .full, .sl [] .full]) (u8A 14 :: [c] ++ intZ ++ [nilA]) := fun _ _ => (show FrzL _ _ [.lit (.int .u8 14), c, .lit (.bool false), .sl [] .full, .sl [] .full] (u8A 14 :: [c] ++ intZ ++ [nilA]) from (.cons (.lit _) (.cons (hcz _ _) (.cons (.lit _) (.cons (.nil _) (.cons (.nil _) .nil))))))
       have hWl : ([.lit (.int .u8 14), c, .lit (.bool false), .sl [] .full, .sl [] .full]).length = 5 := by first | rfl | (rw [putCells_len]; rfl)
       generalize [.lit (.int .u8 14), c, .lit (.bool false), .sl [] .full, .sl [] .full] = W at *
       have hb5 := hbs4 (.cells W 41)
       have hp5 := hs4 (.cells W 41)
       have hx5 := hxs4 (.cells W 41)
       clear hbs4 hs4 hxs4 hr4 hb4 hx4
       generalize σ4.set (σ.length + 1) (.cells W 41) = σ5 at *
       refine CW.seqK fun KC hKC => CW.region ?_
       simp (maxDischargeDepth := 16) [symB, List.length_set, andThen, outOf, hlen, h1, h2, h3, hb5]
       rw [← nodeA_eq]
       refine (rest_term_any N .term rfl (src := 2) ao hx5 (fineT_l hf) (fun u hu => by have := size_kid hu; simp [rank] at hn ⊢; omega) hc (fineT_k hf) (by omega)).mono ?_
       rintro r σ6 ⟨tok, rfl, hx6, hy6⟩
       have hp6 := hy6.get ((setF_ne _ hne).trans hp5)
       have hs6 : ∀ o, (σ6.set (σ.length + 1) o)[σ.length + 1]? = some o := fun o => List.getElem?_set_self (lt_of_obj hp6)
       have hxs6 : ∀ o, Ext _ (σ6.set (σ.length + 1) o) := fun o => hx6.set (by rw [setF_len]; omega)
       have hokq : okR (restO ao (rd N .term) (t.kids.drop 2)).1 := okR_restO fun u => rd_ok N .term u
       generalize restO ao (rd N .term) (t.kids.drop 2) = q at *
       simp (maxDischargeDepth := 16) [symB, List.length_set, retK, andThen, outOf, hlen, h1, h2, h3, hp6, hs6, hWl]
       refine hKC _ _ ?_; clear hKC KC
       have hz : ∀ σ'' k, FrzL σ'' k (W.set 4 (.sl q.1 tok)) (rd (N + 1) .term t).1 := fun _ _ => by rw [hrd]; exact (hzW _ _).set (.okR hokq tok)
       have hxv : Ext (setF σ fid (rd (N + 1) .term t).2) (σ6.set (σ.length + 1) (.cells (W.set 4 (.sl q.1 tok)) 41)) := by rw [hrd]; exact hxs6 _
       have hpv0 := hs6 (.cells (W.set 4 (.sl q.1 tok)) 41)
       have hvl : (W.set 4 (.sl q.1 tok)).length = 5 := by simp [hWl]
       clear hs6 hxs6
       generalize W.set 4 (.sl q.1 tok) = v at *
       generalize σ6.set (σ.length + 1) (.cells v 41) = σ' at *
       have htk : List.take 5 v = v := List.take_of_length_le (by omega)
       have hxs : ∀ o, Ext _ (σ'.set (σ.length + 1) o) := fun o => hxv.set (by rw [setF_len]; omega)
       have hsr : ∀ o, (σ'.set (σ.length + 1) o)[σ.length + 1]? = some o := fun o => List.getElem?_set_self (lt_of_obj hpv0)
       have hpv : putCells v 0 v = v := by have := putCells_app v v [] rfl; simpa using this
       refine CW.seqK fun K hK => CW.region ?_
       simp (maxDischargeDepth := 16) [symB, List.length_set, andThen, hlen, h2, hpv0, hvl, htk, hpv]
       refine hK _ _ ?_; clear hK K
       refine CW.ret (hR0 _ _ _ ⟨.agg v, ?_, fgt_of (hxs _) hc (hz _ _).agg⟩)
       simp [resultsA, omap, res_tmp, res_cell, slot_eq, slot_ne, hlen, h2, hsr, partA, aggT, hvl, htk]
     · have m' : ¬ (2 : Int) ≤ t.kids.length := by omega
       simp (maxDischargeDepth := 16) [symB, List.length_set, andThen, hlen, h1, h2, h3, hb0, hkl, htl, ht1, e, bs_list, m, m']
       exact no (fun h => m h.2) _ (by simp [hlen]) (by simp [slot_ne, h1]) (by simp [slot_ne, h2]) (by simp [slot_ne, h3]) (by simp [slot_eq, slot_ne, hlen, e, bs_list, m, m'])
   · simp (maxDischargeDepth := 16) [symB, List.length_set, andThen, hlen, h1, h2, h3, htl, ht1, e]
     exact no (fun h => e h.1) _ (by simp [hlen]) (by simp [slot_ne, h1]) (by simp [slot_ne, h2]) (by simp [slot_ne, h3]) (by simp [slot_eq, slot_ne, hlen, e, bs_list, htl, ht1])
  have ht1 : (⟨#[42]⟩ : ByteArray).toList = [42] := bs_list [42]
  rcases Classical.em (headS t = [42]) with e | e
  · simp (maxDischargeDepth := 16) [symB, List.length_set, andThen, hlen, h1, h2, h3, htl, ht1, e, bs_list]
    refine hKT _ _ ?_; clear no hKT KT
    refine CW.cond (t := true) (by simp [evx_tmp, slot_eq, slot_ne, hlen, e, bs_list]) ?_
    have hpn : ∀ x, (σh ++ [x])[σ.length + 1]? = _ := fun x => get_app hp
    have hss : ∀ x o, ((σh ++ [x]).set (σ.length + 1) o)[σ.length + 1]? = some o := fun x o => List.getElem?_set_self (lt_of_obj (hpn x))
    refine CW.seqK fun K hK => CW.draw (by kernel_rfl) ?_
    simp (maxDischargeDepth := 16) [symB, List.length_set, andThen, hlen, h2, hpn, hss, List.set_set]
    refine ⟨drawOk_sim [σ.length + 1, σh.length] [.news 1, .pure, .writes 0, .pure, .writes 0] (.cons (by simp; omega) (.cons (by simp) .nil)) ?_ (by kernel_rfl), ?_⟩
    · exact .cons (.news 1 _ rfl) (.cons .pure (.cons (.writes 0 _ rfl) (.cons .pure (.cons (.writes 0 _ rfl) .nil))))
    refine hK _ _ ?_; clear hK K
    refine CW.reset2 (fun tm σ1 => tm.length = 99 ∧ slot tm 1 = .ptr σ.length 0 ∧ slot tm 2 = .ptr (σ.length + 1) 0 ∧ σ1 = List.set (σh ++ [AObj.cells [.lit (.int .u8 0), .lit (.string ⟨#[]⟩), .lit (.bool false), .sl [] .full, .sl [] .full] 41]) (σ.length + 1) (.cells [.lit (.int .u8 6), .lit (.string ⟨#[]⟩), .lit (.bool false), .sl [] .full, .asl σh.length 0 1 5] 41)) ⟨by simp [hlen], by simp [slot_ne, h1], by simp [slot_ne, h2], rfl⟩ ?_
    clear h1 h2 h3 hlen tm
    rintro tm σk ⟨hlen, h1, h2, hσk⟩
    have hs : σk[σh.length]? = some (.cells [.lit (.int .u8 0), .lit (.string ⟨#[]⟩), .lit (.bool false), .sl [] .full, .sl [] .full] 41) := by rw [hσk, List.getElem?_set_ne (by omega)]; exact get_new _ _ _
    replace hp : σk[σ.length + 1]? = some (.cells [.lit (.int .u8 6), .lit (.string ⟨#[]⟩), .lit (.bool false), .sl [] .full, .asl σh.length 0 1 5] 41) := by rw [hσk]; exact hss _ _
    replace hb0 : σk[σ.length]? = some (.cells [.lit (.string (bs t.word)), .sl (rowsOf t.kids) .no, .lit (.bool t.row), .lit (.int .i64 t.at_), .ptr fid 0] 57) := by rw [hσk, List.getElem?_set_ne (by omega)]; exact get_app hb0
    replace hc0 : σk[fid]? = some cleanO := by rw [hσk, List.getElem?_set_ne (by omega)]; exact get_app hc0
    replace hx0 : Ext σ σk := by rw [hσk]; exact (hx0.trans ⟨_, rfl⟩).set (by omega)
    have hlk : σk.length = σh.length + 1 := by rw [hσk]; simp
    clear hσk hpn hss
    refine CW.seqK fun K hK => CW.draw (by kernel_rfl) ?_
    simp (maxDischargeDepth := 16) [symB, List.length_set, andThen, hlen, h1, h2, hb0, hp, hs]
    refine (into_whole_ev N (σ.length + 1) 2 (fidOf .whole) σk).mono ?_
    rintro r σi1 ⟨Ta1, Tb1, rfl, hi1⟩
    have hli1 : σi1.length = σk.length + 2 := by rw [hi1]; simp
    have xi1 : extB σk σi1 = true := extB_of ⟨_, hi1⟩
    have hei1 : Ext σk σi1 := ⟨_, hi1⟩
    have ga1 : σi1[σk.length]? = some (.cells [.ptr (σ.length + 1) 2] Ta1) := by rw [hi1]; exact get_new _ _ _
    have gb1 : σi1[σk.length + 1]? = some (.cells [.fn (.func (fidOf .whole)) [] []] Tb1) := by rw [hi1]; exact get_new1 _ _ _ _
    have hei1s : Ext σk σi1 := hei1
    have hpi1 := hei1s.get hp
    have hsi1 := hei1s.get hs
    have hbi1 := hei1s.get hb0
    simp (maxDischargeDepth := 16) [symB, List.length_set, retK, andThen, hlen, h1, h2, hb0, hp, hs, hpi1, hsi1, hbi1]
    refine (into_term_ev N (σh.length) 0 (fidOf .term) σi1).mono ?_
    rintro r σi2 ⟨Ta2, Tb2, rfl, hi2⟩
    have hli2 : σi2.length = σi1.length + 2 := by rw [hi2]; simp
    have xi2 : extB σi1 σi2 = true := extB_of ⟨_, hi2⟩
    have hei2 : Ext σi1 σi2 := ⟨_, hi2⟩
    have ga2 : σi2[σi1.length]? = some (.cells [.ptr (σh.length) 0] Ta2) := by rw [hi2]; exact get_new _ _ _
    have gb2 : σi2[σi1.length + 1]? = some (.cells [.fn (.func (fidOf .term)) [] []] Tb2) := by rw [hi2]; exact get_new1 _ _ _ _
    have hei2s : Ext σk σi2 := hei1s.trans hei2
    have hpi2 := hei2s.get hp
    have hsi2 := hei2s.get hs
    have hbi2 := hei2s.get hb0
    simp (maxDischargeDepth := 16) [symB, List.length_set, retK, andThen, hlen, h1, h2, hb0, hp, hs, hpi2, hsi2, hbi2]
    rw [← nodeA_eq]
    have hneP : σ.length + 1 ≠ fid := by omega
    have hneS : σh.length ≠ fid := by omega
    refine (parts_ev N [.skip, .into .whole (σ.length + 1) 2, .into .term (σh.length) 0] (vs := [.fn (.func 43) [] [], .fn (.func (clos .whole)) [] [.ptr (σk.length + 1) 0, .ptr σk.length 0], .fn (.func (clos .term)) [] [.ptr (σi1.length + 1) 0, .ptr σi1.length 0]]) (hi := σk.length) rfl ?_ (fineT_l hf) ?_ (hei2s.get hc0) (fineT_k hf) (by simp)).mono ?_
    · intro k g v hg hv
      match k with
      | 0 => cases hg; cases hv; rfl
      | 1 => cases hg; cases hv; exact ⟨rfl, _, _, _, _, _, _, rfl, by omega, by omega, by omega, hneP, (hei2.get gb1), (hei2.get ga1), hpi2, by simp [lenR]⟩
      | 2 => cases hg; cases hv; exact ⟨rfl, _, _, _, _, _, _, rfl, by omega, by omega, by omega, hneS, gb2, ga2, hsi2, by simp [lenR]⟩
      | k + 3 => simp at hg
    · intro u hu g hg
      have := size_kid hu
      simp at hg
      rcases hg with rfl | rfl | rfl <;> (simp [rankT, rank] at hn ⊢; omega)
    rintro r σE ⟨rfl, hxp⟩
    obtain ⟨o0, o1, o2, ho⟩ := three_of (partsS_len (fs := [skipS, rd N .whole, rd N .term]) (t := t))
    have hq1 : okO (some o1) := by have := okO_parts (N := N) (gs := [.skip, .into .whole (σ.length + 1) 2, .into .term (σh.length) 0]) (t := t) (k := 1); rwa [show (partsS (List.map (rdT N) [.skip, .into .whole (σ.length + 1) 2, .into .term (σh.length) 0]) t).1 = [o0, o1, o2] from ho] at this
    have hq2 : okO (some o2) := by have := okO_parts (N := N) (gs := [.skip, .into .whole (σ.length + 1) 2, .into .term (σh.length) 0]) (t := t) (k := 2); rwa [show (partsS (List.map (rdT N) [.skip, .into .whole (σ.length + 1) 2, .into .term (σh.length) 0]) t).1 = [o0, o1, o2] from ho] at this
    have hP : partsF N fid [.skip, .into .whole (σ.length + 1) 2, .into .term (σh.length) 0] t σi2 = putT (putT (setF σi2 fid (partsS [skipS, rd N .whole, rd N .term] t).2) (.into .whole (σ.length + 1) 2) o1) (.into .term (σh.length) 0) o2 := by
     rw [partsF_eq _ _ _ _ _ (fun g tg off hm => by simp at hm; rcases hm with ⟨_, rfl, _⟩ | ⟨_, rfl, _⟩ <;> assumption)]
     show putTs _ _ (partsS [skipS, rd N .whole, rd N .term] t).1 = _
     rw [ho]; simp only [putTs, putT_skip]; rfl
    have hpE := hxp.get (by rw [hP]; exact ((putT_ne (by omega)).trans (putT_get ((setF_ne _ hneP).trans hpi2))))
    have hsE := hxp.get (by rw [hP]; exact (putT_get ((putT_ne (by omega)).trans ((setF_ne _ hneS).trans hsi2))))
    have hxE : Ext (setF σ fid (partsS [skipS, rd N .whole, rd N .term] t).2) σE := by
     rw [hP] at hxp
     exact (putT_ext (putT_ext (setF_ext _ (hx0.trans hei2s) hfl) (by rw [setF_len]; omega)) (by rw [setF_len]; omega)).trans hxp
    have hl1' : lenO o1 2 := partsS_lens (fs := [skipS, rd N .whole, rd N .term]) (t := t) (k := 1) rfl (fun u => rd_len N .whole u (by have := size_pos t; simp [rank] at hn ⊢; omega)) (by rw [ho]; rfl)
    have hrd : rd (N + 1) .term t = (putO ((termZ.set 0 (u8A 6)).set 4 (rowsA' [putO termZ 0 (some o2)])) 2 (some o1), (partsS [skipS, rd N .whole, rd N .term] t).2) := by
     show (if _ then _ else if _ then _ else _) = _
     rw [hrow, if_neg (by simp), if_pos e]
     show ((putO (termZ.set 0 (u8A 6)) 2 (partsS [skipS, rd N .whole, rd N .term] t).1[1]?).set 4 (rowsA' [putO termZ 0 (partsS [skipS, rd N .whole, rd N .term] t).1[2]?]), _) = _
     rw [ho]
     show ((putO (termZ.set 0 (u8A 6)) 2 (some o1)).set 4 (rowsA' [putO termZ 0 (some o2)]), _) = _
     rw [putO_set hl1' (.inr (by omega))]
    have hzS : ∀ σ'' n, FrzL σ'' n (putO [.lit (.int .u8 0), .lit (.string ⟨#[]⟩), .lit (.bool false), .sl [] .full, .sl [] .full] 0 (some o2)) (putO termZ 0 (some o2)) := fun σ'' n => FrzL.putO (show FrzL σ'' n _ termZ from (.cons (.lit _) (.cons (.lit _) (.cons (.lit _) (.cons (.nil _) (.cons (.nil _) .nil)))))) hq2
    have hwl : (putO termZ 0 (some o2)).length = 5 := by rw [putO_len]; rfl
    have hz : ∀ σ'', σ''[σh.length]? = some (.cells (putO [.lit (.int .u8 0), .lit (.string ⟨#[]⟩), .lit (.bool false), .sl [] .full, .sl [] .full] 0 (some o2)) 41) → FrzL σ'' σ.length (putO [.lit (.int .u8 6), .lit (.string ⟨#[]⟩), .lit (.bool false), .sl [] .full, .asl σh.length 0 1 5] 2 (some o1)) (rd (N + 1) .term t).1 := fun σ'' hsE => by
     rw [hrd]
     exact FrzL.putO (show FrzL _ _ [.lit (.int .u8 6), .lit (.string ⟨#[]⟩), .lit (.bool false), .sl [] .full, .asl σh.length 0 1 5] ((termZ.set 0 (u8A 6)).set 4 (rowsA' [putO termZ 0 (some o2)])) from .cons (.lit _) (.cons (.lit _) (.cons (.lit _) (.cons (.nil _) (.cons (Frz.asl1 hsE (by omega) (hzS _ _) hwl) .nil))))) hq1
    have hvl : (putO [.lit (.int .u8 6), .lit (.string ⟨#[]⟩), .lit (.bool false), .sl [] .full, .asl σh.length 0 1 5] 2 (some o1)).length = 5 := by rw [putO_len]; rfl
    rw [show (partsS [skipS, rd N .whole, rd N .term] t).2 = (rd (N + 1) .term t).2 by rw [hrd]] at hxE
    generalize putO [.lit (.int .u8 6), .lit (.string ⟨#[]⟩), .lit (.bool false), .sl [] .full, .asl σh.length 0 1 5] 2 (some o1) = v at *
    simp (maxDischargeDepth := 16) [symB, List.length_set, retK, andThen, hlen]
    refine ⟨drawOk_sim [σ.length, σ.length + 1] [.reads 0, .pure, .calls 2 fun _ => true, .pure, .reads 1, .pure, .calls 2 fun _ => true, .pure, .any] (.cons (by simp <;> omega) (.cons (by simp) .nil)) ?_ (by kernel_rfl), ?_⟩
    · refine .cons (.reads 0 _ rfl) (.cons .pure (.cons (.keeps fun x hx => ?_) (.cons .pure (.cons (.reads 1 _ rfl) (.cons .pure (.cons (.keeps fun x hx => ?_) (.cons .pure (.cons (.any _) .nil))))))))
      · simp at hx; exact ⟨by simp [xi1], by omega⟩
      · simp at hx; exact ⟨by simp [xi2], by omega⟩
    refine hK _ _ ?_; clear hK K
    have htk : List.take 5 v = v := List.take_of_length_le (by omega)
    have htp : putCells v 0 v = v := by have := putCells_app v v [] rfl; simpa using this
    have hsr : ∀ o, (σE.set (σ.length + 1) o)[σ.length + 1]? = some o := fun o => List.getElem?_set_self (lt_of_obj hpE)
    have hxs : ∀ o, Ext (setF σ fid (rd (N + 1) .term t).2) (σE.set (σ.length + 1) o) := fun o => hxE.set (by rw [setF_len]; omega)
    have hsE' : ∀ o, (σE.set (σ.length + 1) o)[σh.length]? = _ := fun o => (List.getElem?_set_ne (by omega)).trans hsE
    refine CW.seqK fun K hK => CW.region ?_
    simp (maxDischargeDepth := 16) [symB, List.length_set, andThen, hlen, h2, hpE, hvl, htk, htp]
    refine hK _ _ ?_; clear hK K
    refine CW.ret (hR0 _ _ _ ⟨.agg v, ?_, fgt_of (hxs _) hc (hz _ (hsE' _)).agg⟩)
    simp [resultsA, omap, res_tmp, res_cell, slot_eq, slot_ne, hlen, h2, hsr, partA, aggT, hvl, htk]
  · simp (maxDischargeDepth := 16) [symB, List.length_set, andThen, hlen, h1, h2, h3, htl, ht1, e]
    exact no e _ (by simp [hlen]) (by simp [slot_ne, h1]) (by simp [slot_ne, h2]) (by simp [slot_ne, h3]) (by simp [slot_eq, slot_ne, hlen, e, bs_list, htl, ht1])
end Go.Proofs.YtkkblmdgedmdfaaGreatDoor
