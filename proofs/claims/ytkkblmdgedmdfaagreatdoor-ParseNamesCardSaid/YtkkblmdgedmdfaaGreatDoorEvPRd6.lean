/-
 EV: parse: right (printed by gen_rd6.py).
-/
import Derived.Test.YtkkblmdgedmdfaaGreatDoorEvPRest2
import Derived.Test.YtkkblmdgedmdfaaGreatDoorEvPRd2M
import Derived.Test.YtkkblmdgedmdfaaGreatDoorEvAnyM
namespace Go.Proofs.YtkkblmdgedmdfaaGreatDoor
set_option linter.unusedSimpArgs false
set_option linter.unusedVariables false
open Go.RowKit
set_option maxRecDepth 100000 in
set_option maxHeartbeats 1000000 in
theorem index_evN (N : Nat) (l : List (List UInt8)) (tok : Tok) (s : List UInt8) (σ : Sto) (hl : l.length ≤ 1000000) : CallW Tryz.prog (EN N) 32 [.sl (strR l) tok, .lit (.string (bs s))] σ fun r σ' => (∃ n : Int, r = .ret (.lit (.int .i64 n)) ∧ (0 ≤ n ↔ s ∈ l)) ∧ σ' = σ := by
 refine CallW.start (fn := Tryz.f32) (M := []) rfl rfl rfl rfl (by simp) fun tm hlen hs => ?_
 have h0 := hs 0 _ rfl
 have h1 := hs 1 _ rfl
 clear hs
 simp at hlen
 refine CW.hide fun R0 hR0 => ?_
 have done : ∀ (n : Int) (tm : List AV), (0 ≤ n ↔ s ∈ l) → tm.length = 19 → slot tm 4 = .lit (.int .i64 n) → R0 .ret tm σ := by
  intro n tm hc hlen h2
  refine hR0 _ _ _ ⟨.lit (.int .i64 n), ?_, ⟨n, rfl, hc⟩, rfl⟩
  simp [resultsA, omap, res_tmp, slot_eq, slot_ne, hlen, h2]
 clear hR0
 refine CW.seqK fun K hK => CW.region ?_
 simp (maxDischargeDepth := 16) [symB, List.length_set, andThen, hlen]
 refine hK _ _ ?_; clear hK K
 refine CW.seqK fun K hK => ?_
 refine CW.seqK fun K hK => CW.region ?_
 simp (maxDischargeDepth := 16) [symB, List.length_set, andThen, hlen, h0, strR_len]
 refine hK _ _ ?_; clear hK K
 refine CW.block ?_
 refine CW.hide fun R hR => ?_
 refine CW.loopI (fun r tm σ1 => ∃ i, r = l.length - i ∧ i ≤ l.length ∧ s ∉ l.take i ∧ tm.length = 19 ∧ slot tm 0 = .sl (strR l) tok ∧ slot tm 1 = .lit (.string (bs s)) ∧ slot tm 7 = .lit (.int .i64 l.length) ∧ slot tm 8 = .lit (.int .i64 i) ∧ σ1 = σ) ?_ _ _ _
  ⟨0, rfl, by omega, by simp, by simp [hlen], by simp [slot_ne, h0], by simp [slot_ne, h1], by simp [slot_eq, slot_ne, hlen], by simp [slot_eq, hlen], rfl⟩
 clear h0 h1 hlen tm
 rintro r tm σ1 ⟨i, rfl, hi, hw, hlen, h0, h1, h7, h8, rfl⟩
 refine CW.hide fun R2 hR2 => ?_
 refine CW.seqK fun K3 hK3 => CW.region ?_
 by_cases hlt : i < l.length
 · have hlt' : (i : Int) < l.length := by omega
   simp (maxDischargeDepth := 16) [symB, List.length_set, andThen, hlen, h7, h8, hlt', hlt]
   refine hK3 _ _ ?_
   refine CW.seqK fun K4 hK4 => ?_
   refine CW.cond (t := true) (by simp [evx_tmp, slot_eq, slot_ne, hlen]) ?_
   refine CW.skip ?_
   simp only [andThen]
   refine hK4 _ _ ?_
   have hg : (strR l)[i]? = some [.lit (.string (bs l[i]))] := strR_get hlt
   have htk : l.take (i + 1) = l.take i ++ [l[i]] := by rw [List.take_add_one, List.getElem?_eq_getElem hlt]; rfl
   have hmem := List.getElem_mem hlt
   generalize l[i] = c at *
   have hwk : IntKind.i64.wrap ((i : Int) + 1) = ((i + 1 : Nat) : Int) := wrap_succ (by omega)
   refine CW.seqK fun K5 hK5 => CW.block ?_
   refine CW.seqK fun K hK => CW.region ?_
   simp (maxDischargeDepth := 16) [symB, List.length_set, andThen, hlen, h8]
   refine hK _ _ ?_; clear hK K
   refine CW.seqK fun K6 hK6 => CW.region ?_
   by_cases hcs : s = c
   · subst hcs
     simp (maxDischargeDepth := 16) [symB, List.length_set, andThen, hlen, h0, h1, hg, bs_list]
     refine hK6 _ _ ?_
     refine CW.cond (t := true) (by simp [evx_tmp, slot_eq, slot_ne, hlen]) ?_
     refine CW.seqK fun K7 hK7 => CW.region ?_
     simp (maxDischargeDepth := 16) [symB, List.length_set, andThen, hlen]
     refine hK7 _ _ ?_
     refine CW.ret ?_
     simp only [andThen, outOf]
     exact hR2 _ _ _ (hR _ _ _ (done i _ (by constructor <;> intro _ <;> first | exact hmem | omega) (by simp [hlen]) (by simp [slot_eq, slot_ne, hlen])))
   · simp (maxDischargeDepth := 16) [symB, List.length_set, andThen, hlen, h0, h1, hg, bs_list, hcs]
     refine hK6 _ _ ?_
     refine CW.cond (t := false) (by simp [evx_tmp, slot_eq, slot_ne, hlen, hcs]) ?_
     refine CW.skip ?_
     simp only [andThen, outOf]
     refine hK5 _ _ ?_
     refine CW.region ?_
     simp (maxDischargeDepth := 16) [symB, List.length_set, andThen, hlen, h8, hwk]
     refine hR2 _ _ _ ⟨l.length - (i + 1), by omega, i + 1, rfl, hlt, ?_, by simp [hlen], by simp [slot_ne, h0], by simp [slot_ne, h1], by simp [slot_ne, h7], by simp [slot_eq, hlen], rfl⟩
     rw [htk, List.mem_append, List.mem_singleton]
     rintro (h | h)
     · exact hw h
     · exact hcs h
 · have hlt' : ¬ (i : Int) < l.length := by omega
   rw [List.take_of_length_le (by omega)] at hw
   simp (maxDischargeDepth := 16) [symB, List.length_set, andThen, hlen, h7, h8, hlt', hlt]
   refine hK3 _ _ ?_
   refine CW.seqK fun K4 hK4 => ?_
   refine CW.cond (t := false) (by simp [evx_tmp, slot_eq, slot_ne, hlen, hlt]) ?_
   refine CW.exit ?_
   simp only [andThen]
   refine hR2 _ _ _ (hR _ _ _ ?_)
   simp only [outOf, if_true, andThen]
   refine hK _ _ ?_
   refine CW.seqK fun K hK => CW.region ?_
   simp (maxDischargeDepth := 16) [symB, List.length_set, andThen, hlen]
   refine hK _ _ ?_; clear hK K
   refine CW.ret (done (-1) _ ?_ (by simp [hlen]) (by simp [slot_eq, slot_ne, hlen]))
   constructor
   · intro h; omega
   · intro h; exact absurd h hw
set_option maxRecDepth 100000 in
theorem contains_evN (N : Nat) (l : List (List UInt8)) (tok : Tok) (s : List UInt8) (σ : Sto) (hl : l.length ≤ 1000000) : CallW Tryz.prog (EN N) 18 [.sl (strR l) tok, .lit (.string (bs s))] σ fun r σ' => r = .ret (.lit (.bool (l.contains s))) ∧ σ' = σ := by
 refine CallW.start (fn := Tryz.f18) (M := []) rfl rfl rfl rfl (by simp) fun tm hlen hs => ?_
 have h0 := hs 0 _ rfl
 have h1 := hs 1 _ rfl
 clear hs
 simp at hlen
 refine CW.hide fun R0 hR0 => ?_
 refine CW.seqK fun K hK => CW.region ?_
 simp (maxDischargeDepth := 16) [symB, List.length_set, andThen, hlen]
 refine hK _ _ ?_; clear hK K
 refine CW.seqK fun K hK => CW.region ?_
 simp (maxDischargeDepth := 16) [symB, List.length_set, andThen, hlen, h0, h1]
 refine (index_evN N l tok s σ hl).mono ?_
 rintro r σ' ⟨⟨n, rfl, hn⟩, rfl⟩
 by_cases h : 0 ≤ n
 · have hc : l.contains s = true := by simpa using hn.1 h
   simp (maxDischargeDepth := 16) [symB, List.length_set, andThen, hlen, retK, h]
   refine hK _ _ ?_
   refine CW.ret (hR0 _ _ _ ⟨.lit (.bool true), ?_, by rw [hc], rfl⟩)
   simp [resultsA, omap, res_tmp, slot_eq, slot_ne, hlen]
 · have hc : l.contains s = false := by
    rw [Bool.eq_false_iff]
    intro hc
    exact h (hn.2 (by simpa using hc))
   simp (maxDischargeDepth := 16) [symB, List.length_set, andThen, hlen, retK, h]
   refine hK _ _ ?_
   refine CW.ret (hR0 _ _ _ ⟨.lit (.bool false), ?_, by rw [hc], rfl⟩)
   simp [resultsA, omap, res_tmp, slot_eq, slot_ne, hlen, h]
set_option maxRecDepth 100000 in
theorem prims_ev (N : Nat) (σ : Sto) : CallW Tryz.prog (EN N) 176 [] σ fun r σ' => (∃ tok, r = .ret (.sl (strR primW) tok)) ∧ σ' = σ := by
 refine CallW.start (fn := Tryz.f176) (M := []) rfl rfl rfl rfl (by simp) fun tm hlen hs => ?_
 clear hs
 simp at hlen
 refine CW.hide fun R0 hR0 => ?_
 refine CW.seqK fun K hK => CW.region ?_
 simp (maxDischargeDepth := 16) [symB, List.length_set, andThen, hlen]
 refine hK _ _ ?_; clear hK K
 refine CW.seqK fun K hK => CW.region ?_
 simp (maxDischargeDepth := 16) [symB, List.length_set, andThen, hlen]
 refine hK _ _ ?_
 refine CW.ret (hR0 _ _ _ ⟨.sl (strR primW) .full, ?_, ⟨_, rfl⟩, rfl⟩)
 simp [resultsA, omap, res_tmp, slot_eq, slot_ne, hlen]
 rfl
theorem JD.reset6 {P : Program} {E : Env} {M : List TypeId} {c : Code} {tm : List AV} {σ : Sto} {R : AExit → List AV → Sto → Prop} (Q : List AV → Sto → Prop) (h : Q tm σ) (k : ∀ tm σ, Q tm σ → JD P E M c tm σ R) : JD P E M c tm σ R := k _ _ h
set_option maxRecDepth 100000 in
set_option maxHeartbeats 8000000 in
theorem right_rd (N : Nat) : RdOk N .right := by
 intro t fid σ hf hn hc
 show JC _ _ 136 _ _ _
 refine JC.start (fn := Tryz.f136) (M := [115, 124]) rfl rfl rfl (by simp) fun tm hlen hs => ?_
 have h0 := hs 0 _ rfl
 clear hs
 rw [nodeA_eq] at h0
 simp at hlen
 refine JD.hide fun R0 hR0 => ?_
 have hfl := lt_of_obj hc
 refine JD.seqK fun K hK => J.cw (CW.region ?_)
 simp (maxDischargeDepth := 16) [symB, List.length_set, andThen, hlen, h0]
 refine hK _ _ ?_; clear hK K
 refine JD.reset6 (fun tm σ1 => tm.length = 114 ∧ slot tm 1 = .ptr σ.length 0 ∧ slot tm 2 = .ptr (σ.length + 1) 0 ∧ σ1 = σ ++ [nodeO t fid, .cells [.lit (.int .u8 0), .lit (.string ⟨#[]⟩), .sl [] .full, .sl [] .full, .sl [] .full, .sl [] .full, .sl [] .full] 242]) ⟨by simp [hlen], by simp [slot_eq, slot_ne, hlen], by simp [slot_eq, slot_ne, hlen], rfl⟩ ?_
 clear h0 hlen tm
 rintro tm σ0 ⟨hlen, h1, h2, hσ0⟩
 have hb0 : σ0[σ.length]? = some (.cells [.lit (.string (bs t.word)), .sl (rowsOf t.kids) .no, .lit (.bool t.row), .lit (.int .i64 t.at_), .ptr fid 0] 57) := by rw [hσ0]; exact get_new _ _ _
 have hp : σ0[σ.length + 1]? = some (.cells [.lit (.int .u8 0), .lit (.string ⟨#[]⟩), .sl [] .full, .sl [] .full, .sl [] .full, .sl [] .full, .sl [] .full] 242) := by rw [hσ0]; exact get_new1 _ _ _ _
 have hx0 : Ext σ σ0 := by rw [hσ0]; exact ⟨_, rfl⟩
 have hc0 : σ0[fid]? = some cleanO := by rw [hσ0]; exact get_app hc
 have hl0 : σ0.length = σ.length + 2 := by rw [hσ0]; simp
 clear hσ0
 have hkl : (rowsOf t.kids).length = t.kids.length := rowsOf_length _
 refine JD.seqK fun KA hKA => ?_
 refine JD.seqK fun KB hKB => J.cw (CW.region ?_)
 cases hrow : t.row with
 | false =>
  rw [hrow] at hb0
  simp (maxDischargeDepth := 16) [symB, List.length_set, andThen, hlen, h1, hb0]
  rw [← hrow] at hb0
  refine hKB _ _ ?_; clear hKB KB
  refine JD.cond (t := true) (by simp [evx_tmp, slot_eq, slot_ne, hlen]) ?_
  refine J.cw ?_
  have hrd : rd (N + 1) .right t = ((rhsZ.set 0 (u8A 1)).set 2 (rowsA' [(rd N .atom t).1]), (rd N .atom t).2) := by
   show (if _ then _ else _) = _
   rw [hrow]; rfl
  have hne : σ.length + 1 ≠ fid := by omega
  refine CW.seqK fun K hK => CW.region ?_
  simp (maxDischargeDepth := 16) [symB, List.length_set, andThen, hlen, h1, h2, hb0]
  rw [← nodeA_eq]
  have hrk : rank .atom ≤ N := by have := size_pos t; simp [rank] at hn ⊢; omega
  refine rd_ev (N := N) .atom hf (by simp [rank] at hn ⊢; omega) hc0 ?_
  have hvc := (valR_cells (t := t) hrk).1
  have hvt := (valR_cells (t := t) hrk).2
  have hvl := rd_len N .atom t hrk
  have hok := rd_ok N .atom t
  simp only [lenR] at hvl
  generalize (rd N .atom t).1 = av at *
  generalize (rd N .atom t).2 = ao at *
  have hr4 := (setF_ne ao hne).trans hp
  have hx4 := setF_ext ao hx0 hfl
  generalize setF σ0 fid ao = σ4 at *
  have hs4 : ∀ o, (σ4.set (σ.length + 1) o)[σ.length + 1]? = some o := fun o => List.getElem?_set_self (lt_of_obj hr4)
  have hxs4 : ∀ o, Ext (setF σ fid ao) (σ4.set (σ.length + 1) o) := fun o => hx4.set (by rw [setF_len]; omega)
  generalize valR .atom av = vv at *
  have hta := take_put hvl [.lit (.int .u8 0), .lit (.string ⟨#[]⟩), .lit (.bool false), .sl [] .full, .lit (.bool false)] rfl
  simp (maxDischargeDepth := 16) [symB, List.length_set, retK, andThen, hlen, h1, h2, hvc, hvt, hvl, hr4, hs4, hta]
  refine hK _ _ ?_; clear hK K
  refine CW.ret (hR0 _ _ _ ⟨.agg [.lit (.int .u8 1), .lit (.string ⟨#[]⟩), .sl [av] .full, .sl [] .full, .sl [] .full, .sl [] .full, .sl [] .full], ?_, ?_⟩)
  · simp [resultsA, omap, res_tmp, res_cell, slot_eq, slot_ne, hlen, h2, hs4, partA, aggT]
  · refine fgt_of (by rw [hrd]; exact hxs4 _) hc ?_
    rw [hrd]
    exact (show FrzL _ _ _ _ from .cons (.lit _) (.cons (.lit _) (.cons (Frz.row1 (FrzL.refl hok) .full) (.cons (.nil _) (.cons (.nil _) (.cons (.nil _) (.cons (.nil _) .nil))))))).agg
 | true =>
  rw [hrow] at hb0
  simp (maxDischargeDepth := 16) [symB, List.length_set, andThen, hlen, h1, hb0]
  rw [← hrow] at hb0
  refine hKB _ _ ?_; clear hKB KB
  refine JD.cond (t := false) (by simp [evx_tmp, slot_eq, slot_ne, hlen]) ?_
  refine JD.skip ?_
  simp only [andThen]
  refine hKA _ _ ?_; clear hKA KA
  refine JD.seqK fun KB hKB => J.cw (CW.region ?_)
  simp (maxDischargeDepth := 16) [symB, List.length_set, andThen, hlen, h1, hb0, hkl]
  refine hKB _ _ ?_; clear hKB KB
  refine JD.seqK fun KM hKM => ?_
  have fin : ∀ (v : List AV) (tm : List AV) (σ' : Sto), v.length = 7 → (∀ σ'' k, FrzL σ'' k v (rd (N + 1) .right t).1) → Ext (setF σ fid (rd (N + 1) .right t).2) σ' → σ'[σ.length + 1]? = some (.cells v 242) → tm.length = 114 → slot tm 2 = .ptr (σ.length + 1) 0 → KM tm σ' := by
   intro v tm σ' hvl hz hxv hpv0 hlen h2
   refine hKM _ _ ?_
   refine J.cw ?_
   have htk : List.take 7 v = v := List.take_of_length_le (by omega)
   have hxs : ∀ o, Ext _ (σ'.set (σ.length + 1) o) := fun o => hxv.set (by rw [setF_len]; omega)
   have hsr : ∀ o, (σ'.set (σ.length + 1) o)[σ.length + 1]? = some o := fun o => List.getElem?_set_self (lt_of_obj hpv0)
   have hpv : putCells v 0 v = v := by have := putCells_app v v [] rfl; simpa using this
   refine CW.seqK fun K hK => CW.region ?_
   simp (maxDischargeDepth := 16) [symB, List.length_set, andThen, hlen, h2, hpv0, hvl, htk, hpv]
   refine hK _ _ ?_; clear hK K
   refine CW.ret (hR0 _ _ _ ⟨.agg v, ?_, fgt_of (hxs _) hc (hz _ _).agg⟩)
   simp [resultsA, omap, res_tmp, res_cell, slot_eq, slot_ne, hlen, h2, hsr, partA, aggT, hvl, htk]
  refine JD.seqK fun KB hKB => J.cw (CW.region ?_)
  simp (maxDischargeDepth := 16) [symB, List.length_set, andThen, hlen, h1, hb0]
  rw [← nodeA_eq]
  refine (head_ev N t fid σ0 (fineT_k hf)).mono ?_
  rintro r σh ⟨rfl, hxh⟩
  replace hb0 := hxh.get hb0
  replace hp := hxh.get hp
  replace hc0 := hxh.get hc0
  replace hl0 : σ.length + 2 ≤ σh.length := by have := hxh.len; omega
  replace hx0 := hx0.trans hxh
  clear hxh
  have htl : (bs (headS t)).toList = headS t := bs_list _
  simp (maxDischargeDepth := 16) [symB, List.length_set, retK, andThen, hlen, strA]
  refine hKB _ _ ?_; clear hKB KB
  refine JD.reset6 (fun tm σ1 => tm.length = 114 ∧ slot tm 1 = .ptr σ.length 0 ∧ slot tm 2 = .ptr (σ.length + 1) 0 ∧ slot tm 3 = .lit (.int .i64 t.kids.length) ∧ slot tm 4 = .lit (.string (bs (headS t))) ∧ σh = σ1) ⟨by simp [hlen], by simp [slot_ne, h1], by simp [slot_ne, h2], by simp [slot_eq, slot_ne, hlen, hkl], by simp [slot_eq, slot_ne, hlen], rfl⟩ ?_
  clear h1 h2 hlen tm
  rintro tm σx ⟨hlen, h1, h2, h3, h4, rfl⟩
  refine JD.block ?_
  refine JD.seqK fun KT hKT => J.cw (CW.region ?_)
  simp (maxDischargeDepth := 16) [symB, List.length_set, andThen, hlen, h1, h2, h3, h4]
  refine (prims_ev N σh).mono ?_
  rintro r σp ⟨⟨ptok, rfl⟩, hσp⟩
  replace hσp := hσp.symm; subst hσp
  simp (maxDischargeDepth := 16) [symB, List.length_set, retK, andThen, hlen, h1, h2, h3, h4]
  refine (contains_evN N primW ptok (headS t) _ (by decide)).mono ?_
  rintro r σp ⟨rfl, hσp⟩
  replace hσp := hσp.symm; subst hσp
  cases e : primW.contains (headS t) with
  | true =>
   simp (maxDischargeDepth := 16) [symB, List.length_set, retK, andThen, hlen, h1, h2, h3, h4]
   refine hKT _ _ ?_; clear hKT KT
   refine JD.cond (t := true) (by simp [evx_tmp, slot_eq, slot_ne, hlen]) ?_
   refine J.cw ?_
   have hrd : rd (N + 1) .right t = (((rhsZ.set 0 (u8A 2)).set 1 (strA (headS t))).set 2 (rowsA' (restS (rd N .atom) (t.kids.drop 1)).1), (restS (rd N .atom) (t.kids.drop 1)).2) := by
    show (if _ then _ else _) = _
    rw [hrow, if_neg (by simp), if_pos e]
   have hne : σ.length + 1 ≠ fid := by omega
   have hkp : 1 ≤ t.kids.length := headS_ne (by intro h; rw [h] at e; simp [primW] at e)
   refine CW.seqK fun KR hKR => CW.region ?_
   simp (maxDischargeDepth := 16) [symB, List.length_set, andThen, outOf, hlen, h1, h2, h3, h4, hb0]
   rw [← nodeA_eq]
   refine (rest_atom_ev N .atom rfl (src := 1) (fineT_l hf) (fun u hu => by have := size_kid hu; simp [rank] at hn ⊢; omega) hc0 (fineT_k hf) (by omega)).mono ?_
   rintro r σ6 ⟨tok, rfl, hx6⟩
   have hp6 := hx6.get ((setF_ne _ hne).trans hp)
   replace hx6 := (setF_ext _ hx0 hfl).trans hx6
   have hs6 : ∀ o, (σ6.set (σ.length + 1) o)[σ.length + 1]? = some o := fun o => List.getElem?_set_self (lt_of_obj hp6)
   have hxs6 : ∀ o, Ext _ (σ6.set (σ.length + 1) o) := fun o => hx6.set (by rw [setF_len]; omega)
   have hokq : okR (restS (rd N .atom) (t.kids.drop 1)).1 := okR_rest fun u => rd_ok N .atom u
   generalize restS (rd N .atom) (t.kids.drop 1) = q at *
   simp (maxDischargeDepth := 16) [symB, List.length_set, retK, andThen, outOf, hlen, h1, h2, h3, h4, hp6, hs6]
   refine hKR _ _ ?_; clear hKR KR
   refine CW.ret (hR0 _ _ _ ⟨.agg [.lit (.int .u8 2), .lit (.string (bs (headS t))), .sl q.1 tok, .sl [] .full, .sl [] .full, .sl [] .full, .sl [] .full], ?_, ?_⟩)
   · simp [resultsA, omap, res_tmp, res_cell, slot_eq, slot_ne, hlen, h2, hs6, partA, aggT]
   · refine fgt_of (by rw [hrd]; exact hxs6 _) hc ?_
     rw [hrd]
     exact (show FrzL _ _ _ _ from .cons (.lit _) (.cons (.lit _) (.cons (.okR hokq tok) (.cons (.nil _) (.cons (.nil _) (.cons (.nil _) (.cons (.nil _) .nil))))))).agg
  | false =>
   simp (maxDischargeDepth := 16) [symB, List.length_set, retK, andThen, hlen, h1, h2, h3, h4]
   refine hKT _ _ ?_; clear hKT KT
   refine JD.cond (t := false) (by simp [evx_tmp, slot_eq, slot_ne, hlen]) ?_
   have c1 : ¬ primW.contains (headS t) = true := by rw [e]; simp
   clear e
   refine JD.reset6 (fun tm σ1 => tm.length = 114 ∧ slot tm 1 = .ptr σ.length 0 ∧ slot tm 2 = .ptr (σ.length + 1) 0 ∧ slot tm 3 = .lit (.int .i64 t.kids.length) ∧ slot tm 4 = .lit (.string (bs (headS t))) ∧ σh = σ1) ⟨by simp [hlen], by simp [slot_ne, h1], by simp [slot_ne, h2], by simp [slot_ne, h3], by simp [slot_ne, h4], rfl⟩ ?_
   clear h1 h2 h3 h4 hlen tm
   rintro tm σx ⟨hlen, h1, h2, h3, h4, rfl⟩
   refine JD.seqK fun KT hKT => J.cw (CW.region ?_)
   have no : ¬ (headS t = [99, 111, 110] ∧ 2 ≤ t.kids.length) → ∀ tm : List AV, tm.length = 114 → slot tm 1 = .ptr σ.length 0 → slot tm 2 = .ptr (σ.length + 1) 0 → slot tm 3 = .lit (.int .i64 t.kids.length) → slot tm 4 = .lit (.string (bs (headS t))) → slot tm 29 = .lit (.bool false) → KT tm σh := by
    intro hcn tm hlen h1 h2 h3 h4 hT
    refine hKT _ _ ?_; clear hKT KT
    refine JD.cond (t := false) (by simp [evx_tmp, slot_eq, slot_ne, hlen, hT]) ?_
    have c2 := hcn
    refine JD.seqK fun KT hKT => J.cw (CW.region ?_)
    have no : ¬ (headS t = [99, 97, 108, 108] ∧ 2 ≤ t.kids.length) → ∀ tm : List AV, tm.length = 114 → slot tm 1 = .ptr σ.length 0 → slot tm 2 = .ptr (σ.length + 1) 0 → slot tm 3 = .lit (.int .i64 t.kids.length) → slot tm 4 = .lit (.string (bs (headS t))) → slot tm 44 = .lit (.bool false) → KT tm σh := by
     intro hcn tm hlen h1 h2 h3 h4 hT
     refine hKT _ _ ?_; clear hKT KT
     refine JD.cond (t := false) (by simp [evx_tmp, slot_eq, slot_ne, hlen, hT]) ?_
     have c3 := hcn
     refine JD.seqK fun KT hKT => J.cw (CW.region ?_)
     have no : ¬ (headS t = [112, 114, 105, 110, 116] ∧ t.kids.length = 2) → ∀ tm : List AV, tm.length = 114 → slot tm 1 = .ptr σ.length 0 → slot tm 2 = .ptr (σ.length + 1) 0 → slot tm 3 = .lit (.int .i64 t.kids.length) → slot tm 4 = .lit (.string (bs (headS t))) → slot tm 55 = .lit (.bool false) → KT tm σh := by
      intro hcn tm hlen h1 h2 h3 h4 hT
      refine hKT _ _ ?_; clear hKT KT
      refine JD.cond (t := false) (by simp [evx_tmp, slot_eq, slot_ne, hlen, hT]) ?_
      have c4 := hcn
      refine JD.seqK fun KT hKT => J.cw (CW.region ?_)
      have no : ¬ (headS t = [97, 115, 115, 101, 114, 116] ∧ t.kids.length = 2) → ∀ tm : List AV, tm.length = 114 → slot tm 1 = .ptr σ.length 0 → slot tm 2 = .ptr (σ.length + 1) 0 → slot tm 3 = .lit (.int .i64 t.kids.length) → slot tm 4 = .lit (.string (bs (headS t))) → slot tm 66 = .lit (.bool false) → KT tm σh := by
       intro hcn tm hlen h1 h2 h3 h4 hT
       refine hKT _ _ ?_; clear hKT KT
       refine JD.cond (t := false) (by simp [evx_tmp, slot_eq, slot_ne, hlen, hT]) ?_
       have c5 := hcn
       refine JD.seqK fun KT hKT => J.cw (CW.region ?_)
       have no : ¬ (headS t = [100, 111] ∧ t.kids.length = 2) → ∀ tm : List AV, tm.length = 114 → slot tm 1 = .ptr σ.length 0 → slot tm 2 = .ptr (σ.length + 1) 0 → slot tm 3 = .lit (.int .i64 t.kids.length) → slot tm 4 = .lit (.string (bs (headS t))) → slot tm 77 = .lit (.bool false) → KT tm σh := by
        intro hcn tm hlen h1 h2 h3 h4 hT
        refine hKT _ _ ?_; clear hKT KT
        refine JD.cond (t := false) (by simp [evx_tmp, slot_eq, slot_ne, hlen, hT]) ?_
        have c6 := hcn
        refine JD.seqK fun KT hKT => J.cw (CW.region ?_)
        have no : ¬ (headS t = [108, 97, 109] ∧ t.kids.length = 4) → ∀ tm : List AV, tm.length = 114 → slot tm 1 = .ptr σ.length 0 → slot tm 2 = .ptr (σ.length + 1) 0 → slot tm 3 = .lit (.int .i64 t.kids.length) → slot tm 4 = .lit (.string (bs (headS t))) → slot tm 88 = .lit (.bool false) → KT tm σh := by
         intro hcn tm hlen h1 h2 h3 h4 hT
         refine hKT _ _ ?_; clear hKT KT
         refine JD.cond (t := false) (by simp [evx_tmp, slot_eq, slot_ne, hlen, hT]) ?_
         have c7 := hcn
         refine J.cw ?_
         have hrd : rd (N + 1) .right t = (rhsZ, some t.at_) := by
          show (if _ then _ else _) = _
          rw [hrow, if_neg (by simp), if_neg c1, if_neg c2, if_neg c3, if_neg c4, if_neg c5, if_neg c6, if_neg c7]
         have hne : σ.length + 1 ≠ fid := by omega
         refine CW.region ?_
         simp (maxDischargeDepth := 16) [symB, List.length_set, andThen, outOf, hlen, h1, h2, h3, h4, hb0]
         rw [← nodeA_eq]
         refine (fault_ev N t fid σh hc0).mono ?_
         rintro r σ2 ⟨rfl, hx2⟩
         have hp2 := hx2.get ((setF_ne _ hne).trans hp)
         simp (maxDischargeDepth := 16) [symB, List.length_set, retK, andThen, outOf, hlen, h1, h2, h3, h4]
         exact fin _ _ _ rfl (fun _ _ => by rw [hrd]; exact (show FrzL _ _ [.lit (.int .u8 0), .lit (.string ⟨#[]⟩), .sl [] .full, .sl [] .full, .sl [] .full, .sl [] .full, .sl [] .full] (rhsZ) from (.cons (.lit _) (.cons (.lit _) (.cons (.nil _) (.cons (.nil _) (.cons (.nil _) (.cons (.nil _) (.cons (.nil _) .nil))))))))) (by rw [hrd]; exact (setF_ext _ hx0 hfl).trans hx2) hp2 (by simp [hlen]) (by simp [slot_ne, h2])
        have ht1 : (⟨#[108, 97, 109]⟩ : ByteArray).toList = [108, 97, 109] := bs_list [108, 97, 109]
        rcases Classical.em (headS t = [108, 97, 109]) with e | e
        · rcases Classical.em (t.kids.length = 4) with m | m
          · have m' : (t.kids.length : Int) = 4 := by omega
            simp (maxDischargeDepth := 16) [symB, List.length_set, andThen, hlen, h1, h2, h3, h4, htl, ht1, e, bs_list, m, m']
            refine hKT _ _ ?_; clear no hKT KT
            refine JD.cond (t := true) (by simp [evx_tmp, slot_eq, slot_ne, hlen, e, bs_list, m, m']) ?_
            refine JD.seqK fun KL hKL => JD.any [[0, 1, 2, 3, 4, 5, 6, 7], [0, 2, 1, 3, 4, 5, 6, 7], [0, 2, 3, 1, 4, 5, 6, 7], [0, 2, 3, 4, 1, 5, 6, 7], [0, 2, 3, 4, 5, 1, 6, 7], [1, 0, 2, 3, 4, 5, 6, 7], [1, 2, 0, 3, 4, 5, 6, 7], [1, 2, 3, 0, 4, 5, 6, 7], [2, 0, 1, 3, 4, 5, 6, 7], [2, 0, 3, 1, 4, 5, 6, 7], [2, 0, 3, 4, 1, 5, 6, 7], [2, 0, 3, 4, 5, 1, 6, 7], [2, 1, 0, 3, 4, 5, 6, 7], [2, 1, 3, 0, 4, 5, 6, 7], [2, 3, 0, 1, 4, 5, 6, 7], [2, 3, 0, 4, 1, 5, 6, 7], [2, 3, 0, 4, 5, 1, 6, 7], [2, 3, 1, 0, 4, 5, 6, 7]] (by kernel_rfl) ?_
            have hne : σ.length + 1 ≠ fid := by omega
            have hpn : ∀ x, (σh ++ [x])[σ.length + 1]? = _ := fun x => get_app hp
            have hpn2 : ∀ x y, (σh ++ [x, y])[σ.length + 1]? = _ := fun x y => get_app hp
            have hpn3 : ∀ o (y : AObj), σh.set (σ.length + 1) o ++ [y] = (σh ++ [y]).set (σ.length + 1) o := fun o y => by rw [List.set_append_left _ _ (by omega)]
            have hpn4 : ∀ x o (y : AObj), (σh ++ [x]).set (σ.length + 1) o ++ [y] = (σh ++ [x, y]).set (σ.length + 1) o := fun x o y => by rw [show σh ++ [x, y] = (σh ++ [x]) ++ [y] by simp]; exact (List.set_append_left _ _ (by simp; omega)).symm
            have hpn5 : ∀ o (x y : AObj), σh.set (σ.length + 1) o ++ [x, y] = (σh ++ [x, y]).set (σ.length + 1) o := fun o x y => by rw [List.set_append_left _ _ (by omega)]
            have hss : ∀ x o, ((σh ++ [x]).set (σ.length + 1) o)[σ.length + 1]? = some o := fun x o => List.getElem?_set_self (lt_of_obj (hpn x))
            have hss2 : ∀ x y o, ((σh ++ [x, y]).set (σ.length + 1) o)[σ.length + 1]? = some o := fun x y o => List.getElem?_set_self (lt_of_obj (hpn2 x y))
            have hss3 : ∀ o, (σh.set (σ.length + 1) o)[σ.length + 1]? = some o := fun o => List.getElem?_set_self (lt_of_obj hp)
            have fin : ∀ (a b : Nat) (tm : List AV) (σk : Sto), a ≠ b → σh.length ≤ a → σh.length ≤ b → tm.length = 114 → slot tm 1 = .ptr σ.length 0 → slot tm 2 = .ptr (σ.length + 1) 0 → σk.length = σh.length + 2 → σk[σ.length]? = some (.cells [.lit (.string (bs t.word)), .sl (rowsOf t.kids) .no, .lit (.bool t.row), .lit (.int .i64 t.at_), .ptr fid 0] 57) → σk[fid]? = some cleanO → Ext σ σk → σk[σ.length + 1]? = some (.cells [.lit (.int .u8 4), .lit (.string ⟨#[]⟩), .sl [] .full, .sl [] .full, .asl a 0 1 9, .asl b 0 1 11, .sl [] .full] 242) → σk[a]? = some (.cells [.lit (.bool false), .lit (.string ⟨#[]⟩), .lit (.int .u8 0), .lit (.string ⟨#[]⟩), .lit (.bool false), .sl [] .full, .sl [] .full, .sl [] .full, .sl [] .full] 117) → σk[b]? = some (.cells [.lit (.int .u8 0), .lit (.string ⟨#[]⟩), .sl [] .full, .sl [] .full, .lit (.int .u8 0), .lit (.string ⟨#[]⟩), .lit (.bool false), .sl [] .full, .lit (.bool false), .sl [] .full, .sl [] .full] 126) → KL tm σk := by
             intro a b tm σk hab la lb hlen h1 h2 hlk hb0 hc0 hx0 hp hA hB
             have ha2 := lt_of_obj hA
             have hb2 := lt_of_obj hB
             refine hKL _ _ (J.cw ?_); clear hKL KL
             refine CW.draw (by kernel_rfl) ?_
             simp (maxDischargeDepth := 16) [symB, List.length_set, andThen, outOf, hlen, h1, h2, hb0, hp, hA, hB]
             refine (into_params_ev N (σ.length + 1) 3 (fidOf .params) σk).mono ?_
             rintro r σi1 ⟨Ta1, Tb1, rfl, hi1⟩
             have hli1 : σi1.length = σk.length + 2 := by rw [hi1]; simp
             have xi1 : extB σk σi1 = true := extB_of ⟨_, hi1⟩
             have hei1 : Ext σk σi1 := ⟨_, hi1⟩
             have ga1 : σi1[σk.length]? = some (.cells [.ptr (σ.length + 1) 3] Ta1) := by rw [hi1]; exact get_new _ _ _
             have gb1 : σi1[σk.length + 1]? = some (.cells [.fn (.func (fidOf .params)) [] []] Tb1) := by rw [hi1]; exact get_new1 _ _ _ _
             have hei1s : Ext σk σi1 := hei1
             have hpi1 := hei1s.get hp
             have hAi1 := hei1s.get hA
             have hBi1 := hei1s.get hB
             have hbi1 := hei1s.get hb0
             simp (maxDischargeDepth := 16) [symB, List.length_set, retK, andThen, outOf, hlen, h1, h2, hb0, hp, hA, hB, hpi1, hAi1, hBi1, hbi1]
             refine (into_kind_ev N (a) 0 (fidOf .kind) σi1).mono ?_
             rintro r σi2 ⟨Ta2, Tb2, rfl, hi2⟩
             have hli2 : σi2.length = σi1.length + 2 := by rw [hi2]; simp
             have xi2 : extB σi1 σi2 = true := extB_of ⟨_, hi2⟩
             have hei2 : Ext σi1 σi2 := ⟨_, hi2⟩
             have ga2 : σi2[σi1.length]? = some (.cells [.ptr (a) 0] Ta2) := by rw [hi2]; exact get_new _ _ _
             have gb2 : σi2[σi1.length + 1]? = some (.cells [.fn (.func (fidOf .kind)) [] []] Tb2) := by rw [hi2]; exact get_new1 _ _ _ _
             have hei2s : Ext σk σi2 := hei1s.trans hei2
             have hpi2 := hei2s.get hp
             have hAi2 := hei2s.get hA
             have hBi2 := hei2s.get hB
             have hbi2 := hei2s.get hb0
             simp (maxDischargeDepth := 16) [symB, List.length_set, retK, andThen, outOf, hlen, h1, h2, hb0, hp, hA, hB, hpi2, hAi2, hBi2, hbi2]
             refine (into_body_ev N (b) 0 (fidOf .body) σi2).mono ?_
             rintro r σi3 ⟨Ta3, Tb3, rfl, hi3⟩
             have hli3 : σi3.length = σi2.length + 2 := by rw [hi3]; simp
             have xi3 : extB σi2 σi3 = true := extB_of ⟨_, hi3⟩
             have hei3 : Ext σi2 σi3 := ⟨_, hi3⟩
             have ga3 : σi3[σi2.length]? = some (.cells [.ptr (b) 0] Ta3) := by rw [hi3]; exact get_new _ _ _
             have gb3 : σi3[σi2.length + 1]? = some (.cells [.fn (.func (fidOf .body)) [] []] Tb3) := by rw [hi3]; exact get_new1 _ _ _ _
             have hei3s : Ext σk σi3 := hei2s.trans hei3
             have hpi3 := hei3s.get hp
             have hAi3 := hei3s.get hA
             have hBi3 := hei3s.get hB
             have hbi3 := hei3s.get hb0
             simp (maxDischargeDepth := 16) [symB, List.length_set, retK, andThen, outOf, hlen, h1, h2, hb0, hp, hA, hB, hpi3, hAi3, hBi3, hbi3]
             rw [← nodeA_eq]
             have hneP : σ.length + 1 ≠ fid := by omega
             have hneA : a ≠ fid := by omega
             have hneB : b ≠ fid := by omega
             refine (parts_ev N [.skip, .into .params (σ.length + 1) 3, .into .kind (a) 0, .into .body (b) 0] (vs := [.fn (.func 43) [] [], .fn (.func (clos .params)) [] [.ptr (σk.length + 1) 0, .ptr σk.length 0], .fn (.func (clos .kind)) [] [.ptr (σi1.length + 1) 0, .ptr σi1.length 0], .fn (.func (clos .body)) [] [.ptr (σi2.length + 1) 0, .ptr σi2.length 0]]) (hi := σk.length) rfl ?_ (fineT_l hf) ?_ (hei3s.get hc0) (fineT_k hf) (by simp)).mono ?_
             · intro k g v hg hv
               match k with
               | 0 => cases hg; cases hv; rfl
               | 1 => cases hg; cases hv; exact ⟨rfl, _, _, _, _, _, _, rfl, by omega, by omega, by omega, hneP, (hei3.get (hei2.get gb1)), (hei3.get (hei2.get ga1)), hpi3, by simp [lenR]⟩
               | 2 => cases hg; cases hv; exact ⟨rfl, _, _, _, _, _, _, rfl, by omega, by omega, by omega, hneA, (hei3.get gb2), (hei3.get ga2), hAi3, by simp [lenR]⟩
               | 3 => cases hg; cases hv; exact ⟨rfl, _, _, _, _, _, _, rfl, by omega, by omega, by omega, hneB, gb3, ga3, hBi3, by simp [lenR]⟩
               | k + 4 => simp at hg
             · intro u hu g hg
               have := size_kid hu
               simp at hg
               rcases hg with rfl | rfl | rfl | rfl <;> (simp [rankT, rank] at hn ⊢; omega)
             rintro r σE ⟨rfl, hxp⟩
             obtain ⟨o0, o1, o2, o3, ho⟩ := four_of (partsS_len (fs := [skipS, rd N .params, rd N .kind, rd N .body]) (t := t))
             have hq1 : okO (some o1) := by have := okO_parts (N := N) (gs := [.skip, .into .params (σ.length + 1) 3, .into .kind (a) 0, .into .body (b) 0]) (t := t) (k := 1); rwa [show (partsS (List.map (rdT N) [.skip, .into .params (σ.length + 1) 3, .into .kind (a) 0, .into .body (b) 0]) t).1 = [o0, o1, o2, o3] from ho] at this
             have hq2 : okO (some o2) := by have := okO_parts (N := N) (gs := [.skip, .into .params (σ.length + 1) 3, .into .kind (a) 0, .into .body (b) 0]) (t := t) (k := 2); rwa [show (partsS (List.map (rdT N) [.skip, .into .params (σ.length + 1) 3, .into .kind (a) 0, .into .body (b) 0]) t).1 = [o0, o1, o2, o3] from ho] at this
             have hq3 : okO (some o3) := by have := okO_parts (N := N) (gs := [.skip, .into .params (σ.length + 1) 3, .into .kind (a) 0, .into .body (b) 0]) (t := t) (k := 3); rwa [show (partsS (List.map (rdT N) [.skip, .into .params (σ.length + 1) 3, .into .kind (a) 0, .into .body (b) 0]) t).1 = [o0, o1, o2, o3] from ho] at this
             have hP : partsF N fid [.skip, .into .params (σ.length + 1) 3, .into .kind (a) 0, .into .body (b) 0] t σi3 = putT (putT (putT (setF σi3 fid (partsS [skipS, rd N .params, rd N .kind, rd N .body] t).2) (.into .params (σ.length + 1) 3) o1) (.into .kind (a) 0) o2) (.into .body (b) 0) o3 := by
              rw [partsF_eq _ _ _ _ _ (fun g tg off hm => by simp at hm; rcases hm with ⟨_, rfl, _⟩ | ⟨_, rfl, _⟩ | ⟨_, rfl, _⟩ <;> assumption)]
              show putTs _ _ (partsS [skipS, rd N .params, rd N .kind, rd N .body] t).1 = _
              rw [ho]; simp only [putTs, putT_skip]; rfl
             have hpE := hxp.get (by rw [hP]; exact ((putT_ne (by omega)).trans ((putT_ne (by omega)).trans (putT_get ((setF_ne _ hneP).trans hpi3)))))
             have hAE := hxp.get (by rw [hP]; exact ((putT_ne (by omega)).trans (putT_get ((putT_ne (by omega)).trans ((setF_ne _ hneA).trans hAi3)))))
             have hBE := hxp.get (by rw [hP]; exact (putT_get ((putT_ne (by omega)).trans ((putT_ne (by omega)).trans ((setF_ne _ hneB).trans hBi3)))))
             have hxE : Ext (setF σ fid (partsS [skipS, rd N .params, rd N .kind, rd N .body] t).2) σE := by
              rw [hP] at hxp
              exact (putT_ext (putT_ext (putT_ext (setF_ext _ (hx0.trans hei3s) hfl) (by rw [setF_len]; omega)) (by rw [setF_len]; omega)) (by rw [setF_len]; omega)).trans hxp
             have hl1' : lenO o1 1 := partsS_lens (fs := [skipS, rd N .params, rd N .kind, rd N .body]) (t := t) (k := 1) rfl (fun u => rd_len N .params u (by have := size_pos t; simp [rank] at hn ⊢; omega)) (by rw [ho]; rfl)
             have hrd : rd (N + 1) .right t = (putO (((rhsZ.set 0 (u8A 4)).set 4 (rowsA' [putO kindZ 0 (some o2)])).set 5 (rowsA' [putO exprZ 0 (some o3)])) 3 (some o1), (partsS [skipS, rd N .params, rd N .kind, rd N .body] t).2) := by
              show (if _ then _ else _) = _
              rw [hrow, if_neg (by simp), if_neg c1, if_neg c2, if_neg c3, if_neg c4, if_neg c5, if_neg c6, if_pos ⟨e, m⟩]
              show (((putO (rhsZ.set 0 (u8A 4)) 3 (partsS [skipS, rd N .params, rd N .kind, rd N .body] t).1[1]?).set 4 (rowsA' [putO kindZ 0 (partsS [skipS, rd N .params, rd N .kind, rd N .body] t).1[2]?])).set 5 (rowsA' [putO exprZ 0 (partsS [skipS, rd N .params, rd N .kind, rd N .body] t).1[3]?]), _) = _
              rw [ho]
              show (((putO (rhsZ.set 0 (u8A 4)) 3 (some o1)).set 4 (rowsA' [putO kindZ 0 (some o2)])).set 5 (rowsA' [putO exprZ 0 (some o3)]), _) = _
              rw [putO_set hl1' (.inr (by omega)), putO_set hl1' (.inr (by omega))]
             have hzA : ∀ σ'' n, FrzL σ'' n (putO [.lit (.bool false), .lit (.string ⟨#[]⟩), .lit (.int .u8 0), .lit (.string ⟨#[]⟩), .lit (.bool false), .sl [] .full, .sl [] .full, .sl [] .full, .sl [] .full] 0 (some o2)) (putO kindZ 0 (some o2)) := fun σ'' n => FrzL.putO (show FrzL σ'' n _ kindZ from (.cons (.lit _) (.cons (.lit _) (.cons (.lit _) (.cons (.lit _) (.cons (.lit _) (.cons (.nil _) (.cons (.nil _) (.cons (.nil _) (.cons (.nil _) .nil)))))))))) hq2
             have hzB : ∀ σ'' n, FrzL σ'' n (putO [.lit (.int .u8 0), .lit (.string ⟨#[]⟩), .sl [] .full, .sl [] .full, .lit (.int .u8 0), .lit (.string ⟨#[]⟩), .lit (.bool false), .sl [] .full, .lit (.bool false), .sl [] .full, .sl [] .full] 0 (some o3)) (putO exprZ 0 (some o3)) := fun σ'' n => FrzL.putO (show FrzL σ'' n _ exprZ from (.cons (.lit _) (.cons (.lit _) (.cons (.nil _) (.cons (.nil _) (.cons (.lit _) (.cons (.lit _) (.cons (.lit _) (.cons (.nil _) (.cons (.lit _) (.cons (.nil _) (.cons (.nil _) .nil)))))))))))) hq3
             have hwA : (putO kindZ 0 (some o2)).length = 9 := by rw [putO_len]; rfl
             have hwB : (putO exprZ 0 (some o3)).length = 11 := by rw [putO_len]; rfl
             have hz : ∀ σ'', σ''[a]? = some (.cells (putO [.lit (.bool false), .lit (.string ⟨#[]⟩), .lit (.int .u8 0), .lit (.string ⟨#[]⟩), .lit (.bool false), .sl [] .full, .sl [] .full, .sl [] .full, .sl [] .full] 0 (some o2)) 117) → σ''[b]? = some (.cells (putO [.lit (.int .u8 0), .lit (.string ⟨#[]⟩), .sl [] .full, .sl [] .full, .lit (.int .u8 0), .lit (.string ⟨#[]⟩), .lit (.bool false), .sl [] .full, .lit (.bool false), .sl [] .full, .sl [] .full] 0 (some o3)) 126) → FrzL σ'' σ.length (putO [.lit (.int .u8 4), .lit (.string ⟨#[]⟩), .sl [] .full, .sl [] .full, .asl a 0 1 9, .asl b 0 1 11, .sl [] .full] 3 (some o1)) (rd (N + 1) .right t).1 := fun σ'' hsA hsB => by
              rw [hrd]
              exact FrzL.putO (show FrzL _ _ [.lit (.int .u8 4), .lit (.string ⟨#[]⟩), .sl [] .full, .sl [] .full, .asl a 0 1 9, .asl b 0 1 11, .sl [] .full] (((rhsZ.set 0 (u8A 4)).set 4 (rowsA' [putO kindZ 0 (some o2)])).set 5 (rowsA' [putO exprZ 0 (some o3)])) from .cons (.lit _) (.cons (.lit _) (.cons (.nil _) (.cons (.nil _) (.cons (Frz.asl1 hsA (by omega) (hzA _ _) hwA) (.cons (Frz.asl1 hsB (by omega) (hzB _ _) hwB) (.cons (.nil _) .nil))))))) hq1
             have hvl : (putO [.lit (.int .u8 4), .lit (.string ⟨#[]⟩), .sl [] .full, .sl [] .full, .asl a 0 1 9, .asl b 0 1 11, .sl [] .full] 3 (some o1)).length = 7 := by rw [putO_len]; rfl
             rw [show (partsS [skipS, rd N .params, rd N .kind, rd N .body] t).2 = (rd (N + 1) .right t).2 by rw [hrd]] at hxE
             generalize putO [.lit (.int .u8 4), .lit (.string ⟨#[]⟩), .sl [] .full, .sl [] .full, .asl a 0 1 9, .asl b 0 1 11, .sl [] .full] 3 (some o1) = v at *
             simp (maxDischargeDepth := 16) [symB, List.length_set, retK, andThen, outOf, hlen]
             refine ⟨drawOk_sim [σ.length, σ.length + 1] [.reads 0, .pure, .calls 2 fun _ => true, .pure, .reads 1, .pure, .calls 2 fun _ => true, .pure, .reads 1, .pure, .calls 2 fun _ => true, .pure, .any] (.cons (by simp <;> omega) (.cons (by simp) .nil)) ?_ (by kernel_rfl), ?_⟩
             · refine .cons (.reads 0 _ rfl) (.cons .pure (.cons (.keeps fun x hx => ?_) (.cons .pure (.cons (.reads 1 _ rfl) (.cons .pure (.cons (.keeps fun x hx => ?_) (.cons .pure (.cons (.reads 1 _ rfl) (.cons .pure (.cons (.keeps fun x hx => ?_) (.cons .pure (.cons (.any _) .nil))))))))))))
               · simp at hx; exact ⟨by simp [xi1], by omega⟩
               · simp at hx; exact ⟨by simp [xi2], by omega⟩
               · simp at hx; exact ⟨by simp [xi3], by omega⟩
             try simp only [outOf, andThen]
             refine hKM _ _ (J.cw ?_)
             have htk : List.take 7 v = v := List.take_of_length_le (by omega)
             have hxs : ∀ o, Ext _ (σE.set (σ.length + 1) o) := fun o => hxE.set (by rw [setF_len]; omega)
             have hsr : ∀ o, (σE.set (σ.length + 1) o)[σ.length + 1]? = some o := fun o => List.getElem?_set_self (lt_of_obj hpE)
             have hsA' : ∀ o, (σE.set (σ.length + 1) o)[a]? = _ := fun o => (List.getElem?_set_ne (by omega)).trans hAE
             have hsB' : ∀ o, (σE.set (σ.length + 1) o)[b]? = _ := fun o => (List.getElem?_set_ne (by omega)).trans hBE
             have hpv : putCells v 0 v = v := by have := putCells_app v v [] rfl; simpa using this
             refine CW.seqK fun K hK => CW.region ?_
             simp (maxDischargeDepth := 16) [symB, List.length_set, andThen, hlen, h2, hpE, hvl, htk, hpv]
             refine hK _ _ ?_; clear hK K
             refine CW.ret (hR0 _ _ _ ⟨.agg v, ?_, fgt_of (hxs _) hc (hz _ (hsA' _) (hsB' _)).agg⟩)
             simp [resultsA, omap, res_tmp, res_cell, slot_eq, slot_ne, hlen, h2, hsr, partA, aggT, hvl, htk]
            have fin2 : ∀ (a b : Nat) (tm : List AV) (σk : Sto), a ≠ b → σh.length ≤ a → σh.length ≤ b → tm.length = 114 → slot tm 1 = .ptr σ.length 0 → slot tm 2 = .ptr (σ.length + 1) 0 → σk.length = σh.length + 2 → (σk = (σh ++ (if a < b then [AObj.cells [.lit (.bool false), .lit (.string ⟨#[]⟩), .lit (.int .u8 0), .lit (.string ⟨#[]⟩), .lit (.bool false), .sl [] .full, .sl [] .full, .sl [] .full, .sl [] .full] 117, AObj.cells [.lit (.int .u8 0), .lit (.string ⟨#[]⟩), .sl [] .full, .sl [] .full, .lit (.int .u8 0), .lit (.string ⟨#[]⟩), .lit (.bool false), .sl [] .full, .lit (.bool false), .sl [] .full, .sl [] .full] 126] else [AObj.cells [.lit (.int .u8 0), .lit (.string ⟨#[]⟩), .sl [] .full, .sl [] .full, .lit (.int .u8 0), .lit (.string ⟨#[]⟩), .lit (.bool false), .sl [] .full, .lit (.bool false), .sl [] .full, .sl [] .full] 126, AObj.cells [.lit (.bool false), .lit (.string ⟨#[]⟩), .lit (.int .u8 0), .lit (.string ⟨#[]⟩), .lit (.bool false), .sl [] .full, .sl [] .full, .sl [] .full, .sl [] .full] 117])).set (σ.length + 1) (.cells [.lit (.int .u8 4), .lit (.string ⟨#[]⟩), .sl [] .full, .sl [] .full, .asl a 0 1 9, .asl b 0 1 11, .sl [] .full] 242)) → (a = σh.length ∧ b = σh.length + 1 ∨ b = σh.length ∧ a = σh.length + 1) → KL tm σk := by
             intro a b tm σk hab la lb hlen h1 h2 hlk hσk hor
             subst hσk
             refine fin a b tm _ hab la lb hlen h1 h2 hlk ?_ ?_ ?_ ?_ ?_ ?_
             · rw [List.getElem?_set_ne (by omega)]; exact get_app hb0
             · rw [List.getElem?_set_ne (by omega)]; exact get_app hc0
             · exact (hx0.trans ⟨_, rfl⟩).set (by omega)
             · exact List.getElem?_set_self (lt_of_obj (get_app hp))
             · rcases hor with ⟨rfl, rfl⟩ | ⟨rfl, rfl⟩
               · rw [List.getElem?_set_ne (by omega), if_pos (by omega)]; exact get_new _ _ _
               · rw [List.getElem?_set_ne (by omega), if_neg (by omega)]; exact get_new1 _ _ _ _
             · rcases hor with ⟨rfl, rfl⟩ | ⟨rfl, rfl⟩
               · rw [List.getElem?_set_ne (by omega), if_pos (by omega)]; exact get_new1 _ _ _ _
               · rw [List.getElem?_set_ne (by omega), if_neg (by omega)]; exact get_new _ _ _
            clear fin
            have hl1 : σ.length + 1 < σh.length := by omega
            intro l hl
            simp only [List.mem_cons, List.not_mem_nil, or_false] at hl
            rcases hl with rfl | rfl | rfl | rfl | rfl | rfl | rfl | rfl | rfl | rfl | rfl | rfl | rfl | rfl | rfl | rfl | rfl | rfl
            · simp (maxDischargeDepth := 16) [symB, List.length_set, EO, EL1_val, EL1_skip, andThen, hlen, h1, h2, hp, hpn, hpn2, hpn3, hpn4, hpn5, hss, hss2, hss3, List.set_set, Nat.add_assoc]
              exact fin2 (σh.length) (σh.length + 1) _ _ (by omega) (by omega) (by omega) (by simp [hlen]) (by simp [slot_ne, h1]) (by simp [slot_ne, h2]) (by simp) (by rw [if_pos (by omega)]; first | done | rfl | simp [List.set_append_left, hl1]) (by simp)
            · simp (maxDischargeDepth := 16) [symB, List.length_set, EO, EL1_val, EL1_skip, andThen, hlen, h1, h2, hp, hpn, hpn2, hpn3, hpn4, hpn5, hss, hss2, hss3, List.set_set, Nat.add_assoc]
              exact fin2 (σh.length) (σh.length + 1) _ _ (by omega) (by omega) (by omega) (by simp [hlen]) (by simp [slot_ne, h1]) (by simp [slot_ne, h2]) (by simp) (by rw [if_pos (by omega)]; first | done | rfl | simp [List.set_append_left, hl1]) (by simp)
            · simp (maxDischargeDepth := 16) [symB, List.length_set, EO, EL1_val, EL1_skip, andThen, hlen, h1, h2, hp, hpn, hpn2, hpn3, hpn4, hpn5, hss, hss2, hss3, List.set_set, Nat.add_assoc]
              exact fin2 (σh.length) (σh.length + 1) _ _ (by omega) (by omega) (by omega) (by simp [hlen]) (by simp [slot_ne, h1]) (by simp [slot_ne, h2]) (by simp) (by rw [if_pos (by omega)]; first | done | rfl | simp [List.set_append_left, hl1]) (by simp)
            · simp (maxDischargeDepth := 16) [symB, List.length_set, EO, EL1_val, EL1_skip, andThen, hlen, h1, h2, hp, hpn, hpn2, hpn3, hpn4, hpn5, hss, hss2, hss3, List.set_set, Nat.add_assoc]
              exact fin2 (σh.length) (σh.length + 1) _ _ (by omega) (by omega) (by omega) (by simp [hlen]) (by simp [slot_ne, h1]) (by simp [slot_ne, h2]) (by simp) (by rw [if_pos (by omega)]; first | done | rfl | simp [List.set_append_left, hl1]) (by simp)
            · simp (maxDischargeDepth := 16) [symB, List.length_set, EO, EL1_val, EL1_skip, andThen, hlen, h1, h2, hp, hpn, hpn2, hpn3, hpn4, hpn5, hss, hss2, hss3, List.set_set, Nat.add_assoc]
              exact fin2 (σh.length) (σh.length + 1) _ _ (by omega) (by omega) (by omega) (by simp [hlen]) (by simp [slot_ne, h1]) (by simp [slot_ne, h2]) (by simp) (by rw [if_pos (by omega)]; first | done | rfl | simp [List.set_append_left, hl1]) (by simp)
            · simp (maxDischargeDepth := 16) [symB, List.length_set, EO, EL1_val, EL1_skip, andThen, hlen, h1, h2, hp, hpn, hpn2, hpn3, hpn4, hpn5, hss, hss2, hss3, List.set_set, Nat.add_assoc]
              exact fin2 (σh.length + 1) (σh.length) _ _ (by omega) (by omega) (by omega) (by simp [hlen]) (by simp [slot_ne, h1]) (by simp [slot_ne, h2]) (by simp) (by rw [if_neg (by omega)]; first | done | rfl | simp [List.set_append_left, hl1]) (by simp)
            · simp (maxDischargeDepth := 16) [symB, List.length_set, EO, EL1_val, EL1_skip, andThen, hlen, h1, h2, hp, hpn, hpn2, hpn3, hpn4, hpn5, hss, hss2, hss3, List.set_set, Nat.add_assoc]
              exact fin2 (σh.length + 1) (σh.length) _ _ (by omega) (by omega) (by omega) (by simp [hlen]) (by simp [slot_ne, h1]) (by simp [slot_ne, h2]) (by simp) (by rw [if_neg (by omega)]; first | done | rfl | simp [List.set_append_left, hl1]) (by simp)
            · simp (maxDischargeDepth := 16) [symB, List.length_set, EO, EL1_val, EL1_skip, andThen, hlen, h1, h2, hp, hpn, hpn2, hpn3, hpn4, hpn5, hss, hss2, hss3, List.set_set, Nat.add_assoc]
              exact fin2 (σh.length + 1) (σh.length) _ _ (by omega) (by omega) (by omega) (by simp [hlen]) (by simp [slot_ne, h1]) (by simp [slot_ne, h2]) (by simp) (by rw [if_neg (by omega)]; first | done | rfl | simp [List.set_append_left, hl1]) (by simp)
            · simp (maxDischargeDepth := 16) [symB, List.length_set, EO, EL1_val, EL1_skip, andThen, hlen, h1, h2, hp, hpn, hpn2, hpn3, hpn4, hpn5, hss, hss2, hss3, List.set_set, Nat.add_assoc]
              exact fin2 (σh.length) (σh.length + 1) _ _ (by omega) (by omega) (by omega) (by simp [hlen]) (by simp [slot_ne, h1]) (by simp [slot_ne, h2]) (by simp) (by rw [if_pos (by omega)]; first | done | rfl | simp [List.set_append_left, hl1]) (by simp)
            · simp (maxDischargeDepth := 16) [symB, List.length_set, EO, EL1_val, EL1_skip, andThen, hlen, h1, h2, hp, hpn, hpn2, hpn3, hpn4, hpn5, hss, hss2, hss3, List.set_set, Nat.add_assoc]
              exact fin2 (σh.length) (σh.length + 1) _ _ (by omega) (by omega) (by omega) (by simp [hlen]) (by simp [slot_ne, h1]) (by simp [slot_ne, h2]) (by simp) (by rw [if_pos (by omega)]; first | done | rfl | simp [List.set_append_left, hl1]) (by simp)
            · simp (maxDischargeDepth := 16) [symB, List.length_set, EO, EL1_val, EL1_skip, andThen, hlen, h1, h2, hp, hpn, hpn2, hpn3, hpn4, hpn5, hss, hss2, hss3, List.set_set, Nat.add_assoc]
              exact fin2 (σh.length) (σh.length + 1) _ _ (by omega) (by omega) (by omega) (by simp [hlen]) (by simp [slot_ne, h1]) (by simp [slot_ne, h2]) (by simp) (by rw [if_pos (by omega)]; first | done | rfl | simp [List.set_append_left, hl1]) (by simp)
            · simp (maxDischargeDepth := 16) [symB, List.length_set, EO, EL1_val, EL1_skip, andThen, hlen, h1, h2, hp, hpn, hpn2, hpn3, hpn4, hpn5, hss, hss2, hss3, List.set_set, Nat.add_assoc]
              exact fin2 (σh.length) (σh.length + 1) _ _ (by omega) (by omega) (by omega) (by simp [hlen]) (by simp [slot_ne, h1]) (by simp [slot_ne, h2]) (by simp) (by rw [if_pos (by omega)]; first | done | rfl | simp [List.set_append_left, hl1]) (by simp)
            · simp (maxDischargeDepth := 16) [symB, List.length_set, EO, EL1_val, EL1_skip, andThen, hlen, h1, h2, hp, hpn, hpn2, hpn3, hpn4, hpn5, hss, hss2, hss3, List.set_set, Nat.add_assoc]
              exact fin2 (σh.length + 1) (σh.length) _ _ (by omega) (by omega) (by omega) (by simp [hlen]) (by simp [slot_ne, h1]) (by simp [slot_ne, h2]) (by simp) (by rw [if_neg (by omega)]; first | done | rfl | simp [List.set_append_left, hl1]) (by simp)
            · simp (maxDischargeDepth := 16) [symB, List.length_set, EO, EL1_val, EL1_skip, andThen, hlen, h1, h2, hp, hpn, hpn2, hpn3, hpn4, hpn5, hss, hss2, hss3, List.set_set, Nat.add_assoc]
              exact fin2 (σh.length + 1) (σh.length) _ _ (by omega) (by omega) (by omega) (by simp [hlen]) (by simp [slot_ne, h1]) (by simp [slot_ne, h2]) (by simp) (by rw [if_neg (by omega)]; first | done | rfl | simp [List.set_append_left, hl1]) (by simp)
            · simp (maxDischargeDepth := 16) [symB, List.length_set, EO, EL1_val, EL1_skip, andThen, hlen, h1, h2, hp, hpn, hpn2, hpn3, hpn4, hpn5, hss, hss2, hss3, List.set_set, Nat.add_assoc]
              exact fin2 (σh.length) (σh.length + 1) _ _ (by omega) (by omega) (by omega) (by simp [hlen]) (by simp [slot_ne, h1]) (by simp [slot_ne, h2]) (by simp) (by rw [if_pos (by omega)]; first | done | rfl | simp [List.set_append_left, hl1]) (by simp)
            · simp (maxDischargeDepth := 16) [symB, List.length_set, EO, EL1_val, EL1_skip, andThen, hlen, h1, h2, hp, hpn, hpn2, hpn3, hpn4, hpn5, hss, hss2, hss3, List.set_set, Nat.add_assoc]
              exact fin2 (σh.length) (σh.length + 1) _ _ (by omega) (by omega) (by omega) (by simp [hlen]) (by simp [slot_ne, h1]) (by simp [slot_ne, h2]) (by simp) (by rw [if_pos (by omega)]; first | done | rfl | simp [List.set_append_left, hl1]) (by simp)
            · simp (maxDischargeDepth := 16) [symB, List.length_set, EO, EL1_val, EL1_skip, andThen, hlen, h1, h2, hp, hpn, hpn2, hpn3, hpn4, hpn5, hss, hss2, hss3, List.set_set, Nat.add_assoc]
              exact fin2 (σh.length) (σh.length + 1) _ _ (by omega) (by omega) (by omega) (by simp [hlen]) (by simp [slot_ne, h1]) (by simp [slot_ne, h2]) (by simp) (by rw [if_pos (by omega)]; first | done | rfl | simp [List.set_append_left, hl1]) (by simp)
            · simp (maxDischargeDepth := 16) [symB, List.length_set, EO, EL1_val, EL1_skip, andThen, hlen, h1, h2, hp, hpn, hpn2, hpn3, hpn4, hpn5, hss, hss2, hss3, List.set_set, Nat.add_assoc]
              exact fin2 (σh.length + 1) (σh.length) _ _ (by omega) (by omega) (by omega) (by simp [hlen]) (by simp [slot_ne, h1]) (by simp [slot_ne, h2]) (by simp) (by rw [if_neg (by omega)]; first | done | rfl | simp [List.set_append_left, hl1]) (by simp)
          · have m' : ¬ (t.kids.length : Int) = 4 := by omega
            simp (maxDischargeDepth := 16) [symB, List.length_set, andThen, hlen, h1, h2, h3, h4, htl, ht1, e, bs_list, m, m']
            exact no (fun h => m h.2) _ (by simp [hlen]) (by simp [slot_ne, h1]) (by simp [slot_ne, h2]) (by simp [slot_ne, h3]) (by simp [slot_ne, h4]) (by simp [slot_eq, slot_ne, hlen, e, bs_list, m, m'])
        · simp (maxDischargeDepth := 16) [symB, List.length_set, andThen, hlen, h1, h2, h3, h4, htl, ht1, e]
          exact no (fun h => e h.1) _ (by simp [hlen]) (by simp [slot_ne, h1]) (by simp [slot_ne, h2]) (by simp [slot_ne, h3]) (by simp [slot_ne, h4]) (by simp [slot_eq, slot_ne, hlen, e, bs_list, htl, ht1])
       have ht1 : (⟨#[100, 111]⟩ : ByteArray).toList = [100, 111] := bs_list [100, 111]
       rcases Classical.em (headS t = [100, 111]) with e | e
       · rcases Classical.em (t.kids.length = 2) with m | m
         · have m' : (t.kids.length : Int) = 2 := by omega
           simp (maxDischargeDepth := 16) [symB, List.length_set, andThen, hlen, h1, h2, h3, h4, htl, ht1, e, bs_list, m, m']
           refine hKT _ _ ?_; clear no hKT KT
           refine JD.cond (t := true) (by simp [evx_tmp, slot_eq, slot_ne, hlen, e, bs_list, m, m']) ?_
           refine J.cw ?_
           have hrd : rd (N + 1) .right t = ((rhsZ.set 0 (u8A 6)).set 5 (rowsA' (restS (rd N .body) (t.kids.drop 1)).1), (restS (rd N .body) (t.kids.drop 1)).2) := by
            show (if _ then _ else _) = _
            rw [hrow, if_neg (by simp), if_neg c1, if_neg c2, if_neg c3, if_neg c4, if_neg c5, if_pos ⟨e, m⟩]
           have hne : σ.length + 1 ≠ fid := by omega
           refine CW.region ?_
           simp (maxDischargeDepth := 16) [symB, List.length_set, andThen, outOf, hlen, h1, h2, h3, h4, hb0]
           rw [← nodeA_eq]
           refine (rest_expr_ev N .body rfl (src := 1) (fineT_l hf) (fun u hu => by have := size_kid hu; simp [rank] at hn ⊢; omega) hc0 (fineT_k hf) (by omega)).mono ?_
           rintro r σ6 ⟨tok, rfl, hx6⟩
           have hp6 := hx6.get ((setF_ne _ hne).trans hp)
           replace hx6 := (setF_ext _ hx0 hfl).trans hx6
           have hs6 : ∀ o, (σ6.set (σ.length + 1) o)[σ.length + 1]? = some o := fun o => List.getElem?_set_self (lt_of_obj hp6)
           have hxs6 : ∀ o, Ext _ (σ6.set (σ.length + 1) o) := fun o => hx6.set (by rw [setF_len]; omega)
           have hokq : okR (restS (rd N .body) (t.kids.drop 1)).1 := okR_rest fun u => rd_ok N .body u
           generalize restS (rd N .body) (t.kids.drop 1) = q at *
           simp (maxDischargeDepth := 16) [symB, List.length_set, retK, andThen, outOf, hlen, h1, h2, h3, h4, hp6, hs6, List.set_set]
           exact fin _ _ _ (by rfl) (fun _ _ => by rw [hrd]; exact (show FrzL _ _ [.lit (.int .u8 6), .lit (.string ⟨#[]⟩), .sl [] .full, .sl [] .full, .sl [] .full, .sl [] .full, .sl [] .full] (rhsZ.set 0 (u8A 6)) from (.cons (.lit _) (.cons (.lit _) (.cons (.nil _) (.cons (.nil _) (.cons (.nil _) (.cons (.nil _) (.cons (.nil _) .nil)))))))).set (k := 5) (.okR hokq tok)) (by rw [hrd]; exact hxs6 _) (hs6 _) (by simp [hlen]) (by simp [slot_ne, h2])
         · have m' : ¬ (t.kids.length : Int) = 2 := by omega
           simp (maxDischargeDepth := 16) [symB, List.length_set, andThen, hlen, h1, h2, h3, h4, htl, ht1, e, bs_list, m, m']
           exact no (fun h => m h.2) _ (by simp [hlen]) (by simp [slot_ne, h1]) (by simp [slot_ne, h2]) (by simp [slot_ne, h3]) (by simp [slot_ne, h4]) (by simp [slot_eq, slot_ne, hlen, e, bs_list, m, m'])
       · simp (maxDischargeDepth := 16) [symB, List.length_set, andThen, hlen, h1, h2, h3, h4, htl, ht1, e]
         exact no (fun h => e h.1) _ (by simp [hlen]) (by simp [slot_ne, h1]) (by simp [slot_ne, h2]) (by simp [slot_ne, h3]) (by simp [slot_ne, h4]) (by simp [slot_eq, slot_ne, hlen, e, bs_list, htl, ht1])
      have ht1 : (⟨#[97, 115, 115, 101, 114, 116]⟩ : ByteArray).toList = [97, 115, 115, 101, 114, 116] := bs_list [97, 115, 115, 101, 114, 116]
      rcases Classical.em (headS t = [97, 115, 115, 101, 114, 116]) with e | e
      · rcases Classical.em (t.kids.length = 2) with m | m
        · have m' : (t.kids.length : Int) = 2 := by omega
          simp (maxDischargeDepth := 16) [symB, List.length_set, andThen, hlen, h1, h2, h3, h4, htl, ht1, e, bs_list, m, m']
          refine hKT _ _ ?_; clear no hKT KT
          refine JD.cond (t := true) (by simp [evx_tmp, slot_eq, slot_ne, hlen, e, bs_list, m, m']) ?_
          refine J.cw ?_
          have hrd : rd (N + 1) .right t = ((rhsZ.set 0 (u8A 8)).set 6 (rowsA' (restS (rd N .term) (t.kids.drop 1)).1), (restS (rd N .term) (t.kids.drop 1)).2) := by
           show (if _ then _ else _) = _
           rw [hrow, if_neg (by simp), if_neg c1, if_neg c2, if_neg c3, if_neg c4, if_pos ⟨e, m⟩]
          have hne : σ.length + 1 ≠ fid := by omega
          refine CW.region ?_
          simp (maxDischargeDepth := 16) [symB, List.length_set, andThen, outOf, hlen, h1, h2, h3, h4, hb0]
          rw [← nodeA_eq]
          refine (rest_term_ev N .term rfl (src := 1) (fineT_l hf) (fun u hu => by have := size_kid hu; simp [rank] at hn ⊢; omega) hc0 (fineT_k hf) (by omega)).mono ?_
          rintro r σ6 ⟨tok, rfl, hx6⟩
          have hp6 := hx6.get ((setF_ne _ hne).trans hp)
          replace hx6 := (setF_ext _ hx0 hfl).trans hx6
          have hs6 : ∀ o, (σ6.set (σ.length + 1) o)[σ.length + 1]? = some o := fun o => List.getElem?_set_self (lt_of_obj hp6)
          have hxs6 : ∀ o, Ext _ (σ6.set (σ.length + 1) o) := fun o => hx6.set (by rw [setF_len]; omega)
          have hokq : okR (restS (rd N .term) (t.kids.drop 1)).1 := okR_rest fun u => rd_ok N .term u
          generalize restS (rd N .term) (t.kids.drop 1) = q at *
          simp (maxDischargeDepth := 16) [symB, List.length_set, retK, andThen, outOf, hlen, h1, h2, h3, h4, hp6, hs6, List.set_set]
          exact fin _ _ _ (by rfl) (fun _ _ => by rw [hrd]; exact (show FrzL _ _ [.lit (.int .u8 8), .lit (.string ⟨#[]⟩), .sl [] .full, .sl [] .full, .sl [] .full, .sl [] .full, .sl [] .full] (rhsZ.set 0 (u8A 8)) from (.cons (.lit _) (.cons (.lit _) (.cons (.nil _) (.cons (.nil _) (.cons (.nil _) (.cons (.nil _) (.cons (.nil _) .nil)))))))).set (k := 6) (.okR hokq tok)) (by rw [hrd]; exact hxs6 _) (hs6 _) (by simp [hlen]) (by simp [slot_ne, h2])
        · have m' : ¬ (t.kids.length : Int) = 2 := by omega
          simp (maxDischargeDepth := 16) [symB, List.length_set, andThen, hlen, h1, h2, h3, h4, htl, ht1, e, bs_list, m, m']
          exact no (fun h => m h.2) _ (by simp [hlen]) (by simp [slot_ne, h1]) (by simp [slot_ne, h2]) (by simp [slot_ne, h3]) (by simp [slot_ne, h4]) (by simp [slot_eq, slot_ne, hlen, e, bs_list, m, m'])
      · simp (maxDischargeDepth := 16) [symB, List.length_set, andThen, hlen, h1, h2, h3, h4, htl, ht1, e]
        exact no (fun h => e h.1) _ (by simp [hlen]) (by simp [slot_ne, h1]) (by simp [slot_ne, h2]) (by simp [slot_ne, h3]) (by simp [slot_ne, h4]) (by simp [slot_eq, slot_ne, hlen, e, bs_list, htl, ht1])
     have ht1 : (⟨#[112, 114, 105, 110, 116]⟩ : ByteArray).toList = [112, 114, 105, 110, 116] := bs_list [112, 114, 105, 110, 116]
     rcases Classical.em (headS t = [112, 114, 105, 110, 116]) with e | e
     · rcases Classical.em (t.kids.length = 2) with m | m
       · have m' : (t.kids.length : Int) = 2 := by omega
         simp (maxDischargeDepth := 16) [symB, List.length_set, andThen, hlen, h1, h2, h3, h4, htl, ht1, e, bs_list, m, m']
         refine hKT _ _ ?_; clear no hKT KT
         refine JD.cond (t := true) (by simp [evx_tmp, slot_eq, slot_ne, hlen, e, bs_list, m, m']) ?_
         refine J.cw ?_
         have hrd : rd (N + 1) .right t = ((rhsZ.set 0 (u8A 7)).set 2 (rowsA' (restS (rd N .atom) (t.kids.drop 1)).1), (restS (rd N .atom) (t.kids.drop 1)).2) := by
          show (if _ then _ else _) = _
          rw [hrow, if_neg (by simp), if_neg c1, if_neg c2, if_neg c3, if_pos ⟨e, m⟩]
         have hne : σ.length + 1 ≠ fid := by omega
         refine CW.region ?_
         simp (maxDischargeDepth := 16) [symB, List.length_set, andThen, outOf, hlen, h1, h2, h3, h4, hb0]
         rw [← nodeA_eq]
         refine (rest_atom_ev N .atom rfl (src := 1) (fineT_l hf) (fun u hu => by have := size_kid hu; simp [rank] at hn ⊢; omega) hc0 (fineT_k hf) (by omega)).mono ?_
         rintro r σ6 ⟨tok, rfl, hx6⟩
         have hp6 := hx6.get ((setF_ne _ hne).trans hp)
         replace hx6 := (setF_ext _ hx0 hfl).trans hx6
         have hs6 : ∀ o, (σ6.set (σ.length + 1) o)[σ.length + 1]? = some o := fun o => List.getElem?_set_self (lt_of_obj hp6)
         have hxs6 : ∀ o, Ext _ (σ6.set (σ.length + 1) o) := fun o => hx6.set (by rw [setF_len]; omega)
         have hokq : okR (restS (rd N .atom) (t.kids.drop 1)).1 := okR_rest fun u => rd_ok N .atom u
         generalize restS (rd N .atom) (t.kids.drop 1) = q at *
         simp (maxDischargeDepth := 16) [symB, List.length_set, retK, andThen, outOf, hlen, h1, h2, h3, h4, hp6, hs6, List.set_set]
         exact fin _ _ _ (by rfl) (fun _ _ => by rw [hrd]; exact (show FrzL _ _ [.lit (.int .u8 7), .lit (.string ⟨#[]⟩), .sl [] .full, .sl [] .full, .sl [] .full, .sl [] .full, .sl [] .full] (rhsZ.set 0 (u8A 7)) from (.cons (.lit _) (.cons (.lit _) (.cons (.nil _) (.cons (.nil _) (.cons (.nil _) (.cons (.nil _) (.cons (.nil _) .nil)))))))).set (k := 2) (.okR hokq tok)) (by rw [hrd]; exact hxs6 _) (hs6 _) (by simp [hlen]) (by simp [slot_ne, h2])
       · have m' : ¬ (t.kids.length : Int) = 2 := by omega
         simp (maxDischargeDepth := 16) [symB, List.length_set, andThen, hlen, h1, h2, h3, h4, htl, ht1, e, bs_list, m, m']
         exact no (fun h => m h.2) _ (by simp [hlen]) (by simp [slot_ne, h1]) (by simp [slot_ne, h2]) (by simp [slot_ne, h3]) (by simp [slot_ne, h4]) (by simp [slot_eq, slot_ne, hlen, e, bs_list, m, m'])
     · simp (maxDischargeDepth := 16) [symB, List.length_set, andThen, hlen, h1, h2, h3, h4, htl, ht1, e]
       exact no (fun h => e h.1) _ (by simp [hlen]) (by simp [slot_ne, h1]) (by simp [slot_ne, h2]) (by simp [slot_ne, h3]) (by simp [slot_ne, h4]) (by simp [slot_eq, slot_ne, hlen, e, bs_list, htl, ht1])
    have ht1 : (⟨#[99, 97, 108, 108]⟩ : ByteArray).toList = [99, 97, 108, 108] := bs_list [99, 97, 108, 108]
    rcases Classical.em (headS t = [99, 97, 108, 108]) with e | e
    · rcases Classical.em (2 ≤ t.kids.length) with m | m
      · have m' : (2 : Int) ≤ t.kids.length := by omega
        simp (maxDischargeDepth := 16) [symB, List.length_set, andThen, hlen, h1, h2, h3, h4, htl, ht1, e, bs_list, m, m']
        refine hKT _ _ ?_; clear no hKT KT
        refine JD.cond (t := true) (by simp [evx_tmp, slot_eq, slot_ne, hlen, e, bs_list, m, m']) ?_
        refine J.cw ?_
        have hrd : rd (N + 1) .right t = ((rhsZ.set 0 (u8A 5)).set 2 (rowsA' (restS (rd N .atom) (t.kids.drop 1)).1), (restS (rd N .atom) (t.kids.drop 1)).2) := by
         show (if _ then _ else _) = _
         rw [hrow, if_neg (by simp), if_neg c1, if_neg c2, if_pos ⟨e, m⟩]
        have hne : σ.length + 1 ≠ fid := by omega
        refine CW.region ?_
        simp (maxDischargeDepth := 16) [symB, List.length_set, andThen, outOf, hlen, h1, h2, h3, h4, hb0]
        rw [← nodeA_eq]
        refine (rest_atom_ev N .atom rfl (src := 1) (fineT_l hf) (fun u hu => by have := size_kid hu; simp [rank] at hn ⊢; omega) hc0 (fineT_k hf) (by omega)).mono ?_
        rintro r σ6 ⟨tok, rfl, hx6⟩
        have hp6 := hx6.get ((setF_ne _ hne).trans hp)
        replace hx6 := (setF_ext _ hx0 hfl).trans hx6
        have hs6 : ∀ o, (σ6.set (σ.length + 1) o)[σ.length + 1]? = some o := fun o => List.getElem?_set_self (lt_of_obj hp6)
        have hxs6 : ∀ o, Ext _ (σ6.set (σ.length + 1) o) := fun o => hx6.set (by rw [setF_len]; omega)
        have hokq : okR (restS (rd N .atom) (t.kids.drop 1)).1 := okR_rest fun u => rd_ok N .atom u
        generalize restS (rd N .atom) (t.kids.drop 1) = q at *
        simp (maxDischargeDepth := 16) [symB, List.length_set, retK, andThen, outOf, hlen, h1, h2, h3, h4, hp6, hs6, List.set_set]
        exact fin _ _ _ (by rfl) (fun _ _ => by rw [hrd]; exact (show FrzL _ _ [.lit (.int .u8 5), .lit (.string ⟨#[]⟩), .sl [] .full, .sl [] .full, .sl [] .full, .sl [] .full, .sl [] .full] (rhsZ.set 0 (u8A 5)) from (.cons (.lit _) (.cons (.lit _) (.cons (.nil _) (.cons (.nil _) (.cons (.nil _) (.cons (.nil _) (.cons (.nil _) .nil)))))))).set (k := 2) (.okR hokq tok)) (by rw [hrd]; exact hxs6 _) (hs6 _) (by simp [hlen]) (by simp [slot_ne, h2])
      · have m' : ¬ (2 : Int) ≤ t.kids.length := by omega
        simp (maxDischargeDepth := 16) [symB, List.length_set, andThen, hlen, h1, h2, h3, h4, htl, ht1, e, bs_list, m, m']
        exact no (fun h => m h.2) _ (by simp [hlen]) (by simp [slot_ne, h1]) (by simp [slot_ne, h2]) (by simp [slot_ne, h3]) (by simp [slot_ne, h4]) (by simp [slot_eq, slot_ne, hlen, e, bs_list, m, m'])
    · simp (maxDischargeDepth := 16) [symB, List.length_set, andThen, hlen, h1, h2, h3, h4, htl, ht1, e]
      exact no (fun h => e h.1) _ (by simp [hlen]) (by simp [slot_ne, h1]) (by simp [slot_ne, h2]) (by simp [slot_ne, h3]) (by simp [slot_ne, h4]) (by simp [slot_eq, slot_ne, hlen, e, bs_list, htl, ht1])
   have ht1 : (⟨#[99, 111, 110]⟩ : ByteArray).toList = [99, 111, 110] := bs_list [99, 111, 110]
   rcases Classical.em (headS t = [99, 111, 110]) with e | e
   · rcases Classical.em (2 ≤ t.kids.length) with m | m
     · have m' : (2 : Int) ≤ t.kids.length := by omega
       simp (maxDischargeDepth := 16) [symB, List.length_set, andThen, hlen, h1, h2, h3, h4, htl, ht1, e, bs_list, m, m']
       refine hKT _ _ ?_; clear no hKT KT
       refine JD.cond (t := true) (by simp [evx_tmp, slot_eq, slot_ne, hlen, e, bs_list, m, m']) ?_
       refine J.cw ?_
       have hkl1 : 1 < t.kids.length := by omega
       have hget : t.kids[1]? = some t.kids[1] := List.getElem?_eq_getElem hkl1
       have hmem := List.getElem_mem hkl1
       have hka : kidAt t 1 = t.kids[1] := by unfold kidAt; rw [List.getD_eq_getElem?_getD, hget]; rfl
       have hrd : rd (N + 1) .right t = (u8A 3 :: (rd N .name t.kids[1]).1 ++ [rowsA' (restO (rd N .name t.kids[1]).2 (rd N .atom) (t.kids.drop 2)).1, nilA, nilA, nilA, nilA], (restO (rd N .name t.kids[1]).2 (rd N .atom) (t.kids.drop 2)).2) := by
        show (if _ then _ else _) = _
        rw [hrow, if_neg (by simp), if_neg c1, if_pos ⟨e, m⟩, hka]
       generalize t.kids[1] = u at *
       refine CW.seqK fun KB hKB => CW.region ?_
       simp (maxDischargeDepth := 16) [symB, List.length_set, andThen, outOf, hlen, h1, h2, h3, h4, hb0]
       rw [← nodeA_eq]
       refine (kid_ev N hget (fineT_k hf)).mono ?_
       rintro r σ2 ⟨rfl, hx2⟩
       have hp2 := hx2.get hp
       have hb2 := hx2.get hb0
       have hc2 := hx2.get hc0
       have hx02 := hx0.trans hx2
       have hl2 := hx2.len
       have hsz := size_kid hmem
       simp (maxDischargeDepth := 16) [symB, List.length_set, retK, andThen, outOf, hlen, h1, h2, h3, h4, hp2]
       refine rd_ev (N := N) .name (fineL_mem (fineT_l hf) hmem) (by simp [rank] at hn ⊢; omega) hc2 ?_
       have hrk : rank .name ≤ N := by simp [rank] at hn ⊢; omega
       have hvc := (valR_cells (t := u) hrk).1
       have hvt := (valR_cells (t := u) hrk).2
       have hvl := rd_len N .name u hrk
       have hok := rd_ok N .name u
       simp only [lenR] at hvl
       have hne : σ.length + 1 ≠ fid := by omega
       have hne0 : σ.length ≠ fid := by omega
       generalize (rd N .name u).1 = av at *
       generalize (rd N .name u).2 = ao at *
       have hr4 := (setF_ne ao hne).trans hp2
       have hb4 := (setF_ne ao hne0).trans hb2
       have hx4 := setF_ext ao hx02 hfl
       generalize setF σ2 fid ao = σ4 at *
       have hs4 : ∀ o, (σ4.set (σ.length + 1) o)[σ.length + 1]? = some o := fun o => List.getElem?_set_self (lt_of_obj hr4)
       have hxs4 : ∀ o, Ext (setF σ fid ao) (σ4.set (σ.length + 1) o) := fun o => hx4.set (by rw [setF_len]; omega)
       have hbs4 : ∀ o, (σ4.set (σ.length + 1) o)[σ.length]? = _ := fun o => (List.getElem?_set_ne (by omega)).trans hb4
       generalize valR .name av = vv at *
       have hav : ∃ c, av = [c] := by match av, hvl with | [c], _ => exact ⟨c, rfl⟩
       refine Classical.byContradiction fun hno => ?_
       obtain ⟨c, rfl⟩ := hav
       have hcz : ∀ σ'' k, Frz σ'' k c c := fun _ _ => Frz.still (hok c (by simp)).2.1
       refine hno ?_; clear hno
       simp (maxDischargeDepth := 16) [symB, List.length_set, retK, andThen, outOf, hlen, h1, h2, h3, h4, hvc, hvt, hvl, hr4, hs4, List.set_set]
       refine hKB _ _ ?_; clear hKB KB
       have hzW : ∀ σ'' k, FrzL σ'' k ([.lit (.int .u8 3), c, .sl [] .full, .sl [] .full, .sl [] .full, .sl [] .full, .sl [] .full]) (u8A 3 :: [c] ++ [nilA, nilA, nilA, nilA, nilA]) := fun _ _ => (show FrzL _ _ [.lit (.int .u8 3), c, .sl [] .full, .sl [] .full, .sl [] .full, .sl [] .full, .sl [] .full] (u8A 3 :: [c] ++ [nilA, nilA, nilA, nilA, nilA]) from (.cons (.lit _) (.cons (hcz _ _) (.cons (.nil _) (.cons (.nil _) (.cons (.nil _) (.cons (.nil _) (.cons (.nil _) .nil))))))))
       have hWl : ([.lit (.int .u8 3), c, .sl [] .full, .sl [] .full, .sl [] .full, .sl [] .full, .sl [] .full]).length = 7 := by first | rfl | (rw [putCells_len]; rfl)
       generalize [.lit (.int .u8 3), c, .sl [] .full, .sl [] .full, .sl [] .full, .sl [] .full, .sl [] .full] = W at *
       have hb5 := hbs4 (.cells W 242)
       have hp5 := hs4 (.cells W 242)
       have hx5 := hxs4 (.cells W 242)
       clear hbs4 hs4 hxs4 hr4 hb4 hx4
       generalize σ4.set (σ.length + 1) (.cells W 242) = σ5 at *
       refine CW.region ?_
       simp (maxDischargeDepth := 16) [symB, List.length_set, andThen, outOf, hlen, h1, h2, h3, h4, hb5]
       rw [← nodeA_eq]
       refine (rest_atom_any N .atom rfl (src := 2) ao hx5 (fineT_l hf) (fun u hu => by have := size_kid hu; simp [rank] at hn ⊢; omega) hc (fineT_k hf) (by omega)).mono ?_
       rintro r σ6 ⟨tok, rfl, hx6, hy6⟩
       have hp6 := hy6.get ((setF_ne _ hne).trans hp5)
       have hs6 : ∀ o, (σ6.set (σ.length + 1) o)[σ.length + 1]? = some o := fun o => List.getElem?_set_self (lt_of_obj hp6)
       have hxs6 : ∀ o, Ext _ (σ6.set (σ.length + 1) o) := fun o => hx6.set (by rw [setF_len]; omega)
       have hokq : okR (restO ao (rd N .atom) (t.kids.drop 2)).1 := okR_restO fun u => rd_ok N .atom u
       generalize restO ao (rd N .atom) (t.kids.drop 2) = q at *
       simp (maxDischargeDepth := 16) [symB, List.length_set, retK, andThen, outOf, hlen, h1, h2, h3, h4, hp6, hs6, hWl]
       exact fin _ _ _ (by simp [hWl]) (fun _ _ => by rw [hrd]; exact (hzW _ _).set (.okR hokq tok)) (by rw [hrd]; exact hxs6 _) (hs6 _) (by simp [hlen]) (by simp [slot_ne, h2])
     · have m' : ¬ (2 : Int) ≤ t.kids.length := by omega
       simp (maxDischargeDepth := 16) [symB, List.length_set, andThen, hlen, h1, h2, h3, h4, htl, ht1, e, bs_list, m, m']
       exact no (fun h => m h.2) _ (by simp [hlen]) (by simp [slot_ne, h1]) (by simp [slot_ne, h2]) (by simp [slot_ne, h3]) (by simp [slot_ne, h4]) (by simp [slot_eq, slot_ne, hlen, e, bs_list, m, m'])
   · simp (maxDischargeDepth := 16) [symB, List.length_set, andThen, hlen, h1, h2, h3, h4, htl, ht1, e]
     exact no (fun h => e h.1) _ (by simp [hlen]) (by simp [slot_ne, h1]) (by simp [slot_ne, h2]) (by simp [slot_ne, h3]) (by simp [slot_ne, h4]) (by simp [slot_eq, slot_ne, hlen, e, bs_list, htl, ht1])
end Go.Proofs.YtkkblmdgedmdfaaGreatDoor
