/-
 EV: parse: top, at a function (printed by gen_top.py).
-/
import Derived.Test.YtkkblmdgedmdfaaGreatDoorEvPRest2
import Derived.Test.YtkkblmdgedmdfaaGreatDoorEvPRd2M
import Derived.Test.YtkkblmdgedmdfaaGreatDoorEvPRd1
import Derived.Test.YtkkblmdgedmdfaaGreatDoorEvPrimsM
import Derived.Test.YtkkblmdgedmdfaaGreatDoorEvPRd3M
import Derived.Test.YtkkblmdgedmdfaaGreatDoorEvRange3M
namespace Go.Proofs.YtkkblmdgedmdfaaGreatDoor
set_option linter.unusedSimpArgs false
set_option linter.unusedVariables false
section
open Go.RowKit
def funW : List UInt8 := [102, 117, 110]
def funZ : List AV := [strA [], nilA] ++ kindZ ++ exprZ
def funS (N : Nat) (t : Tr) : Ans := let q := partsS [skipS, rd N .name, rd N .params, rd N .kind, rd N .body] t; (putO (putO (putO (putO funZ 0 q.1[1]?) 1 q.1[2]?) 2 q.1[3]?) 11 q.1[4]?, q.2)
theorem putCells_map (g : AV → AV) : ∀ (v cs : List AV) (off : Nat), (putCells cs off v).map g = putCells (cs.map g) off (v.map g)
 | [], cs, off => rfl
 | x :: v, cs, off => by
  show (putCells (cs.set off x) (off + 1) v).map g = putCells ((cs.map g).set off (g x)) (off + 1) (v.map g)
  rw [putCells_map g v, List.map_set]
theorem okL_strip {l : List AV} (h : okL l) : l.map AV.strip = l := by
 have : ∀ d ∈ l, AV.strip d = d := fun d hd => (h d hd).2.2
 rw [List.map_congr_left this, List.map_id'']
 exact fun _ => rfl
theorem putO_strip {cs : List AV} {off : Nat} {o : Option (Option (List AV))} (ho : okO o) : (putO cs off o).map AV.strip = putO (cs.map AV.strip) off o := by
 unfold putO
 split
 · rename_i v
   rw [putCells_map, okL_strip (ho v rfl)]
 · rfl
theorem funS_len (N : Nat) (t : Tr) : (funS N t).1.length = 22 := by
 unfold funS; simp only [putO_len]; rfl
def progO (rows : List (List AV)) (tok : Tok) : AObj := .cells [.sl [] .full, .sl [] .full, .sl rows tok, .sl [] .full] 29
set_option maxRecDepth 100000 in
set_option maxHeartbeats 4000000 in
theorem top_fun_ev (N : Nat) {t : Tr} {fid pid : Nat} {B σ : Sto} {rows : List (List AV)} {tok : Tok} (hh : headS t = funW) (hf : fineT t) (hn : 8 * sizeT t + 4 ≤ N) (hx : Ext B σ) (hpB : B[pid]? = some (progO rows tok)) (hcB : B[fid]? = some cleanO) (hrw : ∀ e ∈ rows, e.length = 22) (htok : TokAt B σ (rows.length * 22) 128 tok) (hl : rows.length ≤ 1000000) :
    CallW Tryz.prog (EN N) 20 [nodeA t fid, .ptr pid 0] σ fun r σ' => r = .ret (.tup []) ∧ ∃ tok', Ext ((setF B fid (funS N t).2).set pid (progO (rows ++ [(funS N t).1]) tok')) σ' ∧ TokAt ((setF B fid (funS N t).2).set pid (progO (rows ++ [(funS N t).1]) tok')) σ' ((rows.length + 1) * 22) 128 tok' := by
 refine CallW.start (fn := Tryz.f20) (M := []) rfl rfl rfl rfl (by simp) fun tm hlen hs => ?_
 have h0 := hs 0 _ rfl
 have h1 := hs 1 _ rfl
 clear hs
 rw [nodeA_eq] at h0
 simp at hlen
 refine CW.hide fun R0 hR0 => ?_
 have hfl : fid < B.length := lt_of_obj hcB
 have hpl : pid < B.length := lt_of_obj hpB
 refine CW.seqK fun K hK => CW.region ?_
 simp (maxDischargeDepth := 16) [symB, List.length_set, andThen, hlen, h0]
 refine hK _ _ ?_; clear hK K
 refine CW.reset2 (fun tm σ1 => tm.length = 108 ∧ slot tm 1 = .ptr pid 0 ∧ slot tm 2 = .ptr σ.length 0 ∧ σ1 = σ ++ [nodeO t fid]) ⟨by simp [hlen], by simp [slot_ne, h1], by simp [slot_eq, slot_ne, hlen], rfl⟩ ?_
 clear h0 h1 hlen tm
 rintro tm σ0 ⟨hlen, h1, h2, hσ0⟩
 have hb0 : σ0[σ.length]? = some (.cells [.lit (.string (bs t.word)), .sl (rowsOf t.kids) .no, .lit (.bool t.row), .lit (.int .i64 t.at_), .ptr fid 0] 57) := by rw [hσ0]; exact get_new _ _ _
 have hx0 : Ext σ σ0 := by rw [hσ0]; exact ⟨_, rfl⟩
 have hl0 : σ0.length = σ.length + 1 := by rw [hσ0]; simp
 clear hσ0
 refine CW.seqK fun K hK => CW.region ?_
 simp (maxDischargeDepth := 16) [symB, List.length_set, andThen, hlen, h2, hb0]
 rw [← nodeA_eq]
 refine (head_ev N t fid σ0 (fineT_k hf)).mono ?_
 rintro r σk ⟨rfl, hxh⟩
 replace hb0 := hxh.get hb0
 replace hx0 := hx0.trans hxh
 have hlk := hxh.len
 clear hxh
 rw [hh]
 simp (maxDischargeDepth := 16) [symB, List.length_set, retK, andThen, hlen, strA]
 refine hK _ _ ?_; clear hK K
 refine CW.reset2 (fun tm σ1 => tm.length = 108 ∧ slot tm 1 = .ptr pid 0 ∧ slot tm 2 = .ptr σ.length 0 ∧ slot tm 4 = .lit (.string (bs funW)) ∧ σk = σ1) ⟨by simp [hlen], by simp [slot_ne, h1], by simp [slot_ne, h2], by simp [slot_eq, slot_ne, hlen], rfl⟩ ?_
 clear h1 h2 hlen tm
 rintro tm σx ⟨hlen, h1, h2, h4, rfl⟩
 refine CW.block ?_
 have hbw : (bs funW).toList = funW := bs_list _
 have hw1 : (⟨#[100, 97, 116, 97]⟩ : ByteArray).toList = [100, 97, 116, 97] := bs_list [100, 97, 116, 97]
 have hw2 : (⟨#[107, 97, 112, 112, 97]⟩ : ByteArray).toList = [107, 97, 112, 112, 97] := bs_list [107, 97, 112, 112, 97]
 have hw3 : (⟨#[102, 117, 110]⟩ : ByteArray).toList = [102, 117, 110] := bs_list [102, 117, 110]
 refine CW.seqK fun K1 hK1 => CW.region ?_
 simp (maxDischargeDepth := 16) [symB, List.length_set, andThen, hlen, h1, h2, h4, bs_list, hw1, funW]
 refine hK1 _ _ ?_; clear hK1 K1
 refine CW.cond (t := false) (by simp [evx_tmp, slot_eq, slot_ne, hlen, bs_list]) ?_
 refine CW.seqK fun K1 hK1 => CW.region ?_
 simp (maxDischargeDepth := 16) [symB, List.length_set, andThen, hlen, h1, h2, h4, bs_list, hw2, funW]
 refine hK1 _ _ ?_; clear hK1 K1
 refine CW.cond (t := false) (by simp [evx_tmp, slot_eq, slot_ne, hlen, bs_list]) ?_
 refine CW.seqK fun K1 hK1 => CW.region ?_
 simp (maxDischargeDepth := 16) [symB, List.length_set, andThen, hlen, h1, h2, h4, bs_list, hw3, funW]
 refine hK1 _ _ ?_; clear hK1 K1
 refine CW.cond (t := true) (by simp [evx_tmp, slot_eq, slot_ne, hlen, bs_list]) ?_
 refine CW.seqK fun K hK => CW.region ?_
 simp (maxDischargeDepth := 16) [symB, List.length_set, andThen, hlen]
 refine hK _ _ ?_; clear hK K
 refine CW.reset2 (fun tm σ1 => tm.length = 108 ∧ slot tm 1 = .ptr pid 0 ∧ slot tm 2 = .ptr σ.length 0 ∧ slot tm 7 = .ptr σk.length 0 ∧ σ1 = σk ++ [.cells [.lit (.string ⟨#[]⟩), .sl [] .full, .lit (.bool false), .lit (.string ⟨#[]⟩), .lit (.int .u8 0), .lit (.string ⟨#[]⟩), .lit (.bool false), .sl [] .full, .sl [] .full, .sl [] .full, .sl [] .full, .lit (.int .u8 0), .lit (.string ⟨#[]⟩), .sl [] .full, .sl [] .full, .lit (.int .u8 0), .lit (.string ⟨#[]⟩), .lit (.bool false), .sl [] .full, .lit (.bool false), .sl [] .full, .sl [] .full] 128]) ⟨by simp [hlen], by simp [slot_ne, h1], by simp [slot_ne, h2], by simp [slot_eq, slot_ne, hlen], rfl⟩ ?_
 clear h1 h2 h4 hlen tm
 rintro tm σf ⟨hlen, h1, h2, h7, hσf⟩
 have hs : σf[σk.length]? = some (.cells [.lit (.string ⟨#[]⟩), .sl [] .full, .lit (.bool false), .lit (.string ⟨#[]⟩), .lit (.int .u8 0), .lit (.string ⟨#[]⟩), .lit (.bool false), .sl [] .full, .sl [] .full, .sl [] .full, .sl [] .full, .lit (.int .u8 0), .lit (.string ⟨#[]⟩), .sl [] .full, .sl [] .full, .lit (.int .u8 0), .lit (.string ⟨#[]⟩), .lit (.bool false), .sl [] .full, .lit (.bool false), .sl [] .full, .sl [] .full] 128) := by rw [hσf]; exact get_new _ _ _
 have hxk : Ext B σf := by rw [hσf]; exact (hx.trans hx0).trans ⟨_, rfl⟩
 replace hb0 : σf[σ.length]? = some (.cells [.lit (.string (bs t.word)), .sl (rowsOf t.kids) .no, .lit (.bool t.row), .lit (.int .i64 t.at_), .ptr fid 0] 57) := by rw [hσf]; exact get_app hb0
 have hlf : σf.length = σk.length + 1 := by rw [hσf]; simp
 have hc0 : σf[fid]? = some cleanO := hxk.get hcB
 have hlB := hx.len
 have hxs : Ext σ σf := by rw [hσf]; exact hx0.trans ⟨_, rfl⟩
 clear hσf
 refine CW.seqK fun K hK => CW.draw (by kernel_rfl) ?_
 simp (maxDischargeDepth := 16) [symB, List.length_set, andThen, hlen, h2, h7, hb0, hs]
 refine (into_name_ev N (σk.length) 0 (fidOf .name) σf).mono ?_
 rintro r σi1 ⟨Ta1, Tb1, rfl, hi1⟩
 have hli1 : σi1.length = σf.length + 2 := by rw [hi1]; simp
 have xi1 : extB σf σi1 = true := extB_of ⟨_, hi1⟩
 have hei1 : Ext σf σi1 := ⟨_, hi1⟩
 have ga1 : σi1[σf.length]? = some (.cells [.ptr (σk.length) 0] Ta1) := by rw [hi1]; exact get_new _ _ _
 have gb1 : σi1[σf.length + 1]? = some (.cells [.fn (.func (fidOf .name)) [] []] Tb1) := by rw [hi1]; exact get_new1 _ _ _ _
 have hei1s : Ext σf σi1 := hei1
 have hsi1 := hei1s.get hs
 have hbi1 := hei1s.get hb0
 simp (maxDischargeDepth := 16) [symB, List.length_set, retK, andThen, hlen, h2, h7, hb0, hs, hsi1, hbi1]
 refine (into_params_ev N (σk.length) 1 (fidOf .params) σi1).mono ?_
 rintro r σi2 ⟨Ta2, Tb2, rfl, hi2⟩
 have hli2 : σi2.length = σi1.length + 2 := by rw [hi2]; simp
 have xi2 : extB σi1 σi2 = true := extB_of ⟨_, hi2⟩
 have hei2 : Ext σi1 σi2 := ⟨_, hi2⟩
 have ga2 : σi2[σi1.length]? = some (.cells [.ptr (σk.length) 1] Ta2) := by rw [hi2]; exact get_new _ _ _
 have gb2 : σi2[σi1.length + 1]? = some (.cells [.fn (.func (fidOf .params)) [] []] Tb2) := by rw [hi2]; exact get_new1 _ _ _ _
 have hei2s : Ext σf σi2 := hei1s.trans hei2
 have hsi2 := hei2s.get hs
 have hbi2 := hei2s.get hb0
 simp (maxDischargeDepth := 16) [symB, List.length_set, retK, andThen, hlen, h2, h7, hb0, hs, hsi2, hbi2]
 refine (into_kind_ev N (σk.length) 2 (fidOf .kind) σi2).mono ?_
 rintro r σi3 ⟨Ta3, Tb3, rfl, hi3⟩
 have hli3 : σi3.length = σi2.length + 2 := by rw [hi3]; simp
 have xi3 : extB σi2 σi3 = true := extB_of ⟨_, hi3⟩
 have hei3 : Ext σi2 σi3 := ⟨_, hi3⟩
 have ga3 : σi3[σi2.length]? = some (.cells [.ptr (σk.length) 2] Ta3) := by rw [hi3]; exact get_new _ _ _
 have gb3 : σi3[σi2.length + 1]? = some (.cells [.fn (.func (fidOf .kind)) [] []] Tb3) := by rw [hi3]; exact get_new1 _ _ _ _
 have hei3s : Ext σf σi3 := hei2s.trans hei3
 have hsi3 := hei3s.get hs
 have hbi3 := hei3s.get hb0
 simp (maxDischargeDepth := 16) [symB, List.length_set, retK, andThen, hlen, h2, h7, hb0, hs, hsi3, hbi3]
 refine (into_body_ev N (σk.length) 11 (fidOf .body) σi3).mono ?_
 rintro r σi4 ⟨Ta4, Tb4, rfl, hi4⟩
 have hli4 : σi4.length = σi3.length + 2 := by rw [hi4]; simp
 have xi4 : extB σi3 σi4 = true := extB_of ⟨_, hi4⟩
 have hei4 : Ext σi3 σi4 := ⟨_, hi4⟩
 have ga4 : σi4[σi3.length]? = some (.cells [.ptr (σk.length) 11] Ta4) := by rw [hi4]; exact get_new _ _ _
 have gb4 : σi4[σi3.length + 1]? = some (.cells [.fn (.func (fidOf .body)) [] []] Tb4) := by rw [hi4]; exact get_new1 _ _ _ _
 have hei4s : Ext σf σi4 := hei3s.trans hei4
 have hsi4 := hei4s.get hs
 have hbi4 := hei4s.get hb0
 simp (maxDischargeDepth := 16) [symB, List.length_set, retK, andThen, hlen, h2, h7, hb0, hs, hsi4, hbi4]
 rw [← nodeA_eq]
 have hneF : σk.length ≠ fid := by omega
 refine (parts_ev N [.skip, .into .name (σk.length) 0, .into .params (σk.length) 1, .into .kind (σk.length) 2, .into .body (σk.length) 11] (vs := [.fn (.func 43) [] [], .fn (.func (clos .name)) [] [.ptr (σf.length + 1) 0, .ptr σf.length 0], .fn (.func (clos .params)) [] [.ptr (σi1.length + 1) 0, .ptr σi1.length 0], .fn (.func (clos .kind)) [] [.ptr (σi2.length + 1) 0, .ptr σi2.length 0], .fn (.func (clos .body)) [] [.ptr (σi3.length + 1) 0, .ptr σi3.length 0]]) (hi := σf.length) rfl ?_ (fineT_l hf) ?_ (hei4s.get hc0) (fineT_k hf) (by simp)).mono ?_
 · intro k g v hg hv
   match k with
   | 0 => cases hg; cases hv; rfl
   | 1 => cases hg; cases hv; exact ⟨rfl, _, _, _, _, _, _, rfl, by omega, by omega, by omega, hneF, (hei4.get (hei3.get (hei2.get gb1))), (hei4.get (hei3.get (hei2.get ga1))), hsi4, by simp [lenR]⟩
   | 2 => cases hg; cases hv; exact ⟨rfl, _, _, _, _, _, _, rfl, by omega, by omega, by omega, hneF, (hei4.get (hei3.get gb2)), (hei4.get (hei3.get ga2)), hsi4, by simp [lenR]⟩
   | 3 => cases hg; cases hv; exact ⟨rfl, _, _, _, _, _, _, rfl, by omega, by omega, by omega, hneF, (hei4.get gb3), (hei4.get ga3), hsi4, by simp [lenR]⟩
   | 4 => cases hg; cases hv; exact ⟨rfl, _, _, _, _, _, _, rfl, by omega, by omega, by omega, hneF, gb4, ga4, hsi4, by simp [lenR]⟩
   | k + 5 => simp at hg
 · intro u hu g hg
   have := size_kid hu
   simp at hg
   rcases hg with rfl | rfl | rfl | rfl | rfl <;> (simp [rankT, rank] at hn ⊢; omega)
 rintro r σE ⟨rfl, hxp⟩
 obtain ⟨o0, o1, o2, o3, o4, ho⟩ := five_of (partsS_len (fs := [skipS, rd N .name, rd N .params, rd N .kind, rd N .body]) (t := t))
 have hq1 : okO (some o1) := by have := okO_parts (N := N) (gs := [.skip, .into .name (σk.length) 0, .into .params (σk.length) 1, .into .kind (σk.length) 2, .into .body (σk.length) 11]) (t := t) (k := 1); rwa [show (partsS (List.map (rdT N) [.skip, .into .name (σk.length) 0, .into .params (σk.length) 1, .into .kind (σk.length) 2, .into .body (σk.length) 11]) t).1 = [o0, o1, o2, o3, o4] from ho] at this
 have hq2 : okO (some o2) := by have := okO_parts (N := N) (gs := [.skip, .into .name (σk.length) 0, .into .params (σk.length) 1, .into .kind (σk.length) 2, .into .body (σk.length) 11]) (t := t) (k := 2); rwa [show (partsS (List.map (rdT N) [.skip, .into .name (σk.length) 0, .into .params (σk.length) 1, .into .kind (σk.length) 2, .into .body (σk.length) 11]) t).1 = [o0, o1, o2, o3, o4] from ho] at this
 have hq3 : okO (some o3) := by have := okO_parts (N := N) (gs := [.skip, .into .name (σk.length) 0, .into .params (σk.length) 1, .into .kind (σk.length) 2, .into .body (σk.length) 11]) (t := t) (k := 3); rwa [show (partsS (List.map (rdT N) [.skip, .into .name (σk.length) 0, .into .params (σk.length) 1, .into .kind (σk.length) 2, .into .body (σk.length) 11]) t).1 = [o0, o1, o2, o3, o4] from ho] at this
 have hq4 : okO (some o4) := by have := okO_parts (N := N) (gs := [.skip, .into .name (σk.length) 0, .into .params (σk.length) 1, .into .kind (σk.length) 2, .into .body (σk.length) 11]) (t := t) (k := 4); rwa [show (partsS (List.map (rdT N) [.skip, .into .name (σk.length) 0, .into .params (σk.length) 1, .into .kind (σk.length) 2, .into .body (σk.length) 11]) t).1 = [o0, o1, o2, o3, o4] from ho] at this
 have hP : partsF N fid [.skip, .into .name (σk.length) 0, .into .params (σk.length) 1, .into .kind (σk.length) 2, .into .body (σk.length) 11] t σi4 = putT (putT (putT (putT (setF σi4 fid (partsS [skipS, rd N .name, rd N .params, rd N .kind, rd N .body] t).2) (.into .name (σk.length) 0) o1) (.into .params (σk.length) 1) o2) (.into .kind (σk.length) 2) o3) (.into .body (σk.length) 11) o4 := by
  rw [partsF_eq _ _ _ _ _ (fun g tg off hm => by simp at hm; rcases hm with ⟨_, rfl, _⟩ | ⟨_, rfl, _⟩ | ⟨_, rfl, _⟩ | ⟨_, rfl, _⟩ <;> assumption)]
  show putTs _ _ (partsS [skipS, rd N .name, rd N .params, rd N .kind, rd N .body] t).1 = _
  rw [ho]; simp only [putTs, putT_skip]; rfl
 have hsE := hxp.get (by rw [hP]; exact (putT_get (putT_get (putT_get (putT_get ((setF_ne _ hneF).trans hsi4))))))
 have hxE : Ext (setF B fid (partsS [skipS, rd N .name, rd N .params, rd N .kind, rd N .body] t).2) σE := by
  rw [hP] at hxp
  exact (putT_ext (putT_ext (putT_ext (putT_ext (setF_ext _ (hxk.trans hei4s) hfl) (by rw [setF_len]; omega)) (by rw [setF_len]; omega)) (by rw [setF_len]; omega)) (by rw [setF_len]; omega)).trans hxp
 have hfS : funS N t = (putO (putO (putO (putO funZ 0 (some o1)) 1 (some o2)) 2 (some o3)) 11 (some o4), (partsS [skipS, rd N .name, rd N .params, rd N .kind, rd N .body] t).2) := by
  show (putO (putO (putO (putO funZ 0 (partsS [skipS, rd N .name, rd N .params, rd N .kind, rd N .body] t).1[1]?) 1 (partsS [skipS, rd N .name, rd N .params, rd N .kind, rd N .body] t).1[2]?) 2 (partsS [skipS, rd N .name, rd N .params, rd N .kind, rd N .body] t).1[3]?) 11 (partsS [skipS, rd N .name, rd N .params, rd N .kind, rd N .body] t).1[4]?, _) = _
  rw [ho]; rfl
 have hstr : stripRows [putO (putO (putO (putO [.lit (.string ⟨#[]⟩), .sl [] .full, .lit (.bool false), .lit (.string ⟨#[]⟩), .lit (.int .u8 0), .lit (.string ⟨#[]⟩), .lit (.bool false), .sl [] .full, .sl [] .full, .sl [] .full, .sl [] .full, .lit (.int .u8 0), .lit (.string ⟨#[]⟩), .sl [] .full, .sl [] .full, .lit (.int .u8 0), .lit (.string ⟨#[]⟩), .lit (.bool false), .sl [] .full, .lit (.bool false), .sl [] .full, .sl [] .full] 0 (some o1)) 1 (some o2)) 2 (some o3)) 11 (some o4)] = [(funS N t).1] := by
  show [(putO (putO (putO (putO [.lit (.string ⟨#[]⟩), .sl [] .full, .lit (.bool false), .lit (.string ⟨#[]⟩), .lit (.int .u8 0), .lit (.string ⟨#[]⟩), .lit (.bool false), .sl [] .full, .sl [] .full, .sl [] .full, .sl [] .full, .lit (.int .u8 0), .lit (.string ⟨#[]⟩), .sl [] .full, .sl [] .full, .lit (.int .u8 0), .lit (.string ⟨#[]⟩), .lit (.bool false), .sl [] .full, .lit (.bool false), .sl [] .full, .sl [] .full] 0 (some o1)) 1 (some o2)) 2 (some o3)) 11 (some o4)).map AV.strip] = _
  rw [putO_strip hq4, putO_strip hq3, putO_strip hq2, putO_strip hq1, hfS]
  rfl
 have hvl : (putO (putO (putO (putO [.lit (.string ⟨#[]⟩), .sl [] .full, .lit (.bool false), .lit (.string ⟨#[]⟩), .lit (.int .u8 0), .lit (.string ⟨#[]⟩), .lit (.bool false), .sl [] .full, .sl [] .full, .sl [] .full, .sl [] .full, .lit (.int .u8 0), .lit (.string ⟨#[]⟩), .sl [] .full, .sl [] .full, .lit (.int .u8 0), .lit (.string ⟨#[]⟩), .lit (.bool false), .sl [] .full, .lit (.bool false), .sl [] .full, .sl [] .full] 0 (some o1)) 1 (some o2)) 2 (some o3)) 11 (some o4)).length = 22 := by simp only [putO_len]; rfl
 have hgen : ∀ (id : Nat) (x : AObj), σf[id]? = some x → id ≠ fid → id ≠ σk.length → σE[id]? = some x := fun id x hi h1 h2 => hxp.get (by rw [hP]; exact (putT_ne h2).trans ((putT_ne h2).trans ((putT_ne h2).trans ((putT_ne h2).trans ((setF_ne _ h1).trans (hei4s.get hi))))))
 generalize putO (putO (putO (putO [.lit (.string ⟨#[]⟩), .sl [] .full, .lit (.bool false), .lit (.string ⟨#[]⟩), .lit (.int .u8 0), .lit (.string ⟨#[]⟩), .lit (.bool false), .sl [] .full, .sl [] .full, .sl [] .full, .sl [] .full, .lit (.int .u8 0), .lit (.string ⟨#[]⟩), .sl [] .full, .sl [] .full, .lit (.int .u8 0), .lit (.string ⟨#[]⟩), .lit (.bool false), .sl [] .full, .lit (.bool false), .sl [] .full, .sl [] .full] 0 (some o1)) 1 (some o2)) 2 (some o3)) 11 (some o4) = V at *
 rw [show (partsS [skipS, rd N .name, rd N .params, rd N .kind, rd N .body] t).2 = (funS N t).2 by rw [hfS]] at hxE
 simp (maxDischargeDepth := 16) [symB, List.length_set, retK, andThen, hlen]
 refine ⟨drawOk_sim [σ.length] [.reads 0, .pure, .calls 1 fun _ => true, .pure, .calls 1 fun _ => true, .pure, .calls 1 fun _ => true, .pure, .calls 1 fun _ => true, .pure, .any] (.cons (by simp) .nil) ?_ (by kernel_rfl), ?_⟩
 · refine .cons (.reads 0 _ rfl) (.cons .pure (.cons (.keeps fun x hx => ?_) (.cons .pure (.cons (.keeps fun x hx => ?_) (.cons .pure (.cons (.keeps fun x hx => ?_) (.cons .pure (.cons (.keeps fun x hx => ?_) (.cons .pure (.cons (.any _) .nil))))))))))
   · simp at hx; subst hx; exact ⟨by simp [xi1], by omega⟩
   · simp at hx; subst hx; exact ⟨by simp [xi2], by omega⟩
   · simp at hx; subst hx; exact ⟨by simp [xi3], by omega⟩
   · simp at hx; subst hx; exact ⟨by simp [xi4], by omega⟩
 refine hK _ _ ?_; clear hK K
 have hpf : pid ≠ fid := by
  rintro rfl
  rw [hpB] at hcB
  simp [progO, cleanO] at hcB
 have hpE : σE[pid]? = some (.cells [.sl [] .full, .sl [] .full, .sl rows tok, .sl [] .full] 29) := hxE.get ((setF_ne _ hpf).trans hpB)
 have htokE : TokAt (setF B fid (funS N t).2) σE (rows.length * 22) 128 tok := by
  rcases htok with h | ⟨id, h1, h2, h3⟩
  · exact .inl h
  · have := lt_of_obj h3
    exact .inr ⟨id, h1, by rw [setF_len]; exact h2, hgen id _ (hxs.get h3) (by omega) (by omega)⟩
 obtain ⟨t', σ5, acc, hext5, htok5, hap⟩ := append_at (P := Tryz.prog) (M := []) (σ0 := setF B fid (funS N t).2) (σ := σE) (es := rows) (tok := tok) (tk := .full) (fs := [V]) (t := 26) Tryz.underlying26 szOf_128 bytesOf_128 zeroOf_128 rfl
  htokE hxE (head_len hrw) (by simp [hvl]) (by simp) (by simp; omega) (by simp; omega)
 rw [hstr] at hap
 have hp5 : σ5[pid]? = some (.cells [.sl [] .full, .sl [] .full, .sl rows tok, .sl [] .full] 29) := hext5.get ((setF_ne _ hpf).trans hpB)
 have htv : List.take 22 V = V := List.take_of_length_le (by omega)
 have htw : ∀ z : List AV, z.length = 22 → putCells z 0 V = V := fun z hz => by have := putCells_app V z [] (by omega); simpa using this
 refine CW.draw (by kernel_rfl) ?_
 simp (maxDischargeDepth := 16) [symB, List.length_set, andThen, outOf, hlen, h1, h7, hpE, hsE, hvl, htv, htw, hap, hp5]
 refine ⟨drawOk_sim [pid, σk.length] [.pure, .pure, .pure, .pure, .reads 0, .reads 1, .pure, .any, .pure, .pure, .writes 0] (.cons (by simp; omega) (.cons (by simp) .nil)) ?_ (by kernel_rfl), ?_⟩
 · exact .cons .pure (.cons .pure (.cons .pure (.cons .pure (.cons (.reads 0 _ rfl) (.cons (.reads 1 _ rfl) (.cons .pure (.cons (.any _) (.cons .pure (.cons .pure (.cons (.writes 0 _ rfl) .nil))))))))))
 refine hR0 _ _ _ ⟨.tup [], rfl, rfl, t', Ext.setL hext5 (by rw [setF_len]; exact hpl) _, ?_⟩
 rcases htok5 with h | ⟨id, q1, q2, q3⟩
 · exact .inl h
 · refine .inr ⟨id, q1, by simpa using q2, ?_⟩
   rw [setF_len] at q2
   rw [List.getElem?_set_ne (by omega)]
   exact q3
end
section
open Go.RowKit
theorem primParse_eq (s : List UInt8) (σ : Sto) (hl : s.length ≤ 1000000) : primParse [.lit (.string (bs s))] σ = some (.ret (.tup [.sl (rowsOf (parseT s).1) .no, .lit (.int .i64 (parseT s).2.1), .lit (.int .i64 (parseT s).2.2)]), σ) := by
 unfold primParse
 simp only [bsz, data_bs]
 rw [if_pos (by unfold maxLen; omega)]
end
section
open Go.RowKit
abbrev nilP : List AV := [.sl [] .full, .sl [] .full, .sl [] .full, .sl [] .full]
theorem get_new2 (σ : Sto) (x y z : AObj) (l : List AObj) : (σ ++ x :: y :: z :: l)[σ.length + 2]? = some z := by
 rw [List.getElem?_append_right (by omega), show σ.length + 2 - σ.length = 2 by omega]; rfl
set_option maxRecDepth 100000 in
set_option maxHeartbeats 4000000 in
theorem program_fun_ev (N : Nat) (s : List UInt8) (σ : Sto) (hs : s.length ≤ 1000000) (he : (parseT s).2.2 = 0) (ht : ∀ t ∈ (parseT s).1, headS t = funW ∧ fineT t ∧ 8 * sizeT t + 4 ≤ N) (hl : (parseT s).1.length ≤ 1000000) :
    CallW Tryz.prog (EN N) 11 [.lit (.string (bs s))] σ fun r σ' => (match (restS (funS N) (parseT s).1).2 with
     | some p => r = .ret (.tup [.agg nilP, .lit (.int .i64 p), .lit (.int .i64 20)])
     | none => ∃ tok, r = .ret (.tup [.agg [.sl [] .full, .sl [] .full, .sl (restS (funS N) (parseT s).1).1 tok, .sl [] .full], .lit (.int .i64 0), .lit (.int .i64 0)])) ∧ Ext σ σ' := by
 refine CallW.start (fn := Tryz.f11) (M := []) rfl rfl rfl rfl (by simp) fun tm hlen hs0 => ?_
 have h0 := hs0 0 _ rfl
 clear hs0
 simp at hlen
 refine CW.hide fun R0 hR0 => ?_
 refine CW.seqK fun K hK => CW.region ?_
 simp (maxDischargeDepth := 16) [symB, List.length_set, andThen, hlen, h0]
 refine hK _ _ ?_; clear hK K
 refine CW.seqK fun K hK => CW.region ?_
 simp (maxDischargeDepth := 16) [symB, List.length_set, andThen, hlen, h0]
 refine CallW.prim (g := primParse) rfl (primParse_eq s _ hs) ?_
 rw [he]
 generalize (parseT s).2.1 = at0
 generalize (parseT s).1 = trees at *
 simp (maxDischargeDepth := 16) [symB, List.length_set, retK, andThen, hlen]
 refine hK _ _ ?_; clear hK K
 refine CW.reset2 (fun tm σ1 => tm.length = 51 ∧ slot tm 2 = .ptr σ.length 0 ∧ slot tm 5 = .sl (rowsOf trees) .no ∧ slot tm 7 = .lit (.int .i64 0) ∧ σ1 = σ ++ [.cells nilP 29]) ⟨by simp [hlen], by simp [slot_eq, slot_ne, hlen], by simp [slot_eq, slot_ne, hlen], by simp [slot_eq, slot_ne, hlen], rfl⟩ ?_
 clear h0 hlen tm
 rintro tm σ0 ⟨hlen, h2, h5, h7, hσ0⟩
 refine CW.seqK fun KA hKA => ?_
 refine CW.seqK fun KB hKB => CW.region ?_
 simp (maxDischargeDepth := 16) [symB, List.length_set, andThen, hlen, h7]
 refine hKB _ _ ?_; clear hKB KB
 refine CW.cond (t := false) (by simp [evx_tmp, slot_eq, slot_ne, hlen]) ?_
 refine CW.skip ?_
 simp only [andThen]
 refine hKA _ _ ?_; clear hKA KA
 refine CW.seqK fun K hK => CW.region ?_
 simp (maxDischargeDepth := 16) [symB, List.length_set, andThen, hlen]
 refine hK _ _ ?_; clear hK K
 refine CW.seqK fun K hK => CW.region ?_
 simp (maxDischargeDepth := 16) [symB, List.length_set, andThen, hlen]
 refine hK _ _ ?_; clear hK K
 refine CW.reset2 (fun tm σ1 => tm.length = 51 ∧ slot tm 2 = .ptr σ.length 0 ∧ slot tm 5 = .sl (rowsOf trees) .no ∧ slot tm 8 = .ptr (σ.length + 1) 0 ∧ slot tm 9 = .ptr (σ.length + 2) 0 ∧ σ1 = σ ++ [.cells nilP 29, .cells nilP 29, cleanO]) ⟨by simp [hlen], by simp [slot_ne, h2], by simp [slot_ne, h5], by simp [slot_eq, slot_ne, hlen, hσ0], by simp [slot_eq, slot_ne, hlen, hσ0], by simp [hσ0, cleanO, boolA]⟩ ?_
 clear h2 h5 h7 hlen hσ0 tm
 rintro tm σ1 ⟨hlen, h2, h5, h8, h9, hσ1⟩
 have hkl : (rowsOf trees).length = trees.length := rowsOf_length _
 refine CW.seqK fun K hK => ?_
 refine CW.seqK fun K hK => CW.region ?_
 simp (maxDischargeDepth := 16) [symB, List.length_set, andThen, hlen, h5, hkl]
 refine hK _ _ ?_; clear hK K
 refine CW.block ?_
 refine CW.hide fun R hR => ?_
 generalize hrs : restS (funS N) trees = rs at *
 have hBl : ∀ B : Sto, B.length = σ.length + 3 → True := fun _ _ => trivial
 refine CW.loopI (fun r tm σ2 => ∃ i rows tok B, r = trees.length - i ∧ i ≤ trees.length ∧ tm.length = 51 ∧ slot tm 2 = .ptr σ.length 0 ∧ slot tm 8 = .ptr (σ.length + 1) 0 ∧ slot tm 9 = .ptr (σ.length + 2) 0 ∧ slot tm 25 = .sl (rowsOf trees) .no ∧ slot tm 26 = .lit (.int .i64 trees.length) ∧ slot tm 27 = .lit (.int .i64 i) ∧ B.length = σ.length + 3 ∧ Ext σ B ∧ Ext B σ2 ∧ B[σ.length]? = some (.cells nilP 29) ∧ B[σ.length + 1]? = some (progO rows tok) ∧ TokAt B σ2 (rows.length * 22) 128 tok ∧ rows.length ≤ i ∧ (∀ e ∈ rows, e.length = 22) ∧
  ((B[σ.length + 2]? = some cleanO ∧ rs = (rows ++ (restS (funS N) (trees.drop i)).1, (restS (funS N) (trees.drop i)).2)) ∨ ∃ p, B[σ.length + 2]? = some (badO p) ∧ rs = (rows, some p))) ?_ trees.length _ _
  ⟨0, [], .full, σ1, by omega, by omega, by simp [hlen], by simp [slot_ne, h2], by simp [slot_ne, h8], by simp [slot_ne, h9], by simp [slot_eq, slot_ne, hlen], by simp [slot_eq, slot_ne, hlen, hkl], by simp [slot_eq, slot_ne, hlen], by rw [hσ1]; simp, by rw [hσ1]; exact ⟨_, rfl⟩, Ext.refl _, by rw [hσ1]; exact get_new _ _ _, by rw [hσ1]; exact get_new1 _ _ _ _, .inl ⟨rfl, by simp⟩, by simp, by simp, .inl ⟨by rw [hσ1]; exact get_new2 _ _ _ _ _, by rw [List.drop_zero, hrs]; rfl⟩⟩
 clear h2 h5 h8 h9 hlen hσ1 σ1 tm hBl
 rintro r tm σ2 ⟨i, rows, tok, B, rfl, hi, hlen, h2, h8, h9, h25, h26, h27, hBn, hxB, hx2, hbr, hbp, htok, hrl, hrw, hor⟩
 refine CW.hide fun R2 hR2 => ?_
 refine CW.seqK fun K3 hK3 => CW.region ?_
 by_cases hlt : i < trees.length
 · have hlt' : (i : Int) < trees.length := by omega
   simp (maxDischargeDepth := 16) [symB, List.length_set, andThen, hlen, h26, h27, hlt', hlt]
   refine hK3 _ _ ?_; clear hK3 K3
   refine CW.seqK fun K4 hK4 => ?_
   refine CW.cond (t := true) (by simp [evx_tmp, slot_eq, slot_ne, hlen, hlt]) ?_
   refine CW.skip ?_
   simp only [andThen]
   refine hK4 _ _ ?_; clear hK4 K4
   refine CW.seqK fun K5 hK5 => ?_
   have hget : trees[i]? = some trees[i] := List.getElem?_eq_getElem hlt
   have hmem := List.getElem_mem hlt
   have hdrop : trees.drop i = trees[i] :: trees.drop (i + 1) := List.drop_eq_getElem_cons hlt
   obtain ⟨hhead, hfine, hsize⟩ := ht _ hmem
   generalize trees[i] = u at *
   have hg := rowsOf_get hget
   have hwk : IntKind.i64.wrap ((i : Int) + 1) = ((i + 1 : Nat) : Int) := wrap_succ (by omega)
   have next : ∀ (tm : List AV) (σ3 : Sto) (rows : List (List AV)) (tok : Tok) (B : Sto), tm.length = 51 → slot tm 2 = .ptr σ.length 0 → slot tm 8 = .ptr (σ.length + 1) 0 → slot tm 9 = .ptr (σ.length + 2) 0 → slot tm 25 = .sl (rowsOf trees) .no → slot tm 26 = .lit (.int .i64 trees.length) → slot tm 27 = .lit (.int .i64 i) → B.length = σ.length + 3 → Ext σ B → Ext B σ3 → B[σ.length]? = some (.cells nilP 29) → B[σ.length + 1]? = some (progO rows tok) → TokAt B σ3 (rows.length * 22) 128 tok → rows.length ≤ i + 1 → (∀ e ∈ rows, e.length = 22) →
       ((B[σ.length + 2]? = some cleanO ∧ rs = (rows ++ (restS (funS N) (trees.drop (i + 1))).1, (restS (funS N) (trees.drop (i + 1))).2)) ∨ ∃ p, B[σ.length + 2]? = some (badO p) ∧ rs = (rows, some p)) → K5 tm σ3 := by
    intro tm σ3 rows tok B hlen h2 h8 h9 h25 h26 h27 hBn hxB hx2 hbr hbp htok hrl hrw hor
    refine hK5 _ _ ?_
    refine CW.region ?_
    simp (maxDischargeDepth := 16) [symB, List.length_set, andThen, hlen, h27, hwk]
    exact hR2 _ _ _ ⟨trees.length - (i + 1), by omega, i + 1, rows, tok, B, rfl, by omega, by simp [hlen], by simp [slot_ne, h2], by simp [slot_ne, h8], by simp [slot_ne, h9], by simp [slot_ne, h25], by simp [slot_ne, h26], by simp [slot_eq, slot_ne, hlen], hBn, hxB, hx2, hbr, hbp, htok, hrl, hrw, hor⟩
   refine CW.block ?_
   refine CW.seqK fun K6 hK6 => CW.region ?_
   have hg' : (rowsOf trees)[i]? = some (rowOf u) := by rw [hg]; cases u; rfl
   simp (maxDischargeDepth := 16) [symB, List.length_set, andThen, outOf, hlen, h25, h27, hkl, hlt', hg', rowOf_get, get_new, set_new]
   refine hK6 _ _ ?_; clear hK6 K6
   refine CW.reset2 (fun tm σ3 => tm.length = 51 ∧ slot tm 2 = .ptr σ.length 0 ∧ slot tm 8 = .ptr (σ.length + 1) 0 ∧ slot tm 9 = .ptr (σ.length + 2) 0 ∧ slot tm 25 = .sl (rowsOf trees) .no ∧ slot tm 26 = .lit (.int .i64 trees.length) ∧ slot tm 27 = .lit (.int .i64 i) ∧ slot tm 11 = .ptr σ2.length 0 ∧ σ3 = σ2 ++ [.cells [.lit (.string (bs u.word)), .sl (rowsOf u.kids) .no, .lit (.bool u.row), .lit (.int .i64 u.at_)] 55]) ⟨by simp [hlen], by simp [slot_ne, h2], by simp [slot_ne, h8], by simp [slot_ne, h9], by simp [slot_ne, h25], by simp [slot_ne, h26], by simp [slot_ne, h27], by simp [slot_eq, slot_ne, hlen], rfl⟩ ?_
   clear h2 h8 h9 h25 h26 h27 hlen tm
   rintro tm σ3 ⟨hlen, h2, h8, h9, h25, h26, h27, h11, hσ3⟩
   have hx23 : Ext σ2 σ3 := by rw [hσ3]; exact ⟨_, rfl⟩
   have ht3 : σ3[σ2.length]? = some (.cells [.lit (.string (bs u.word)), .sl (rowsOf u.kids) .no, .lit (.bool u.row), .lit (.int .i64 u.at_)] 55) := by rw [hσ3]; exact get_new _ _ _
   clear hσ3
   have hx3 := hx2.trans hx23
   have htok3 := htok.ext hx23
   refine CW.seqK fun K7 hK7 => CW.region ?_
   rcases hor with ⟨hcl, hrs2⟩ | ⟨p, hbad, hrs2⟩
   · have hcl3 : σ3[σ.length + 2]? = some (.cells [.lit (.bool false), .lit (.int .i64 0)] 53) := hx3.get hcl
     simp (maxDischargeDepth := 16) [symB, List.length_set, andThen, outOf, hlen, h9, hcl3]
     refine hK7 _ _ ?_; clear hK7 K7
     refine CW.cond (t := true) (by simp [evx_tmp, slot_eq, slot_ne, hlen]) ?_
     refine CW.region ?_
     simp (maxDischargeDepth := 16) [symB, List.length_set, andThen, outOf, hlen, h8, h9, h11, ht3]
     rw [← nodeA_eq]
     refine (top_fun_ev N (t := u) (fid := σ.length + 2) (pid := σ.length + 1) (B := B) (rows := rows) (tok := tok) hhead hfine hsize hx3 hbp hcl hrw htok3 (by omega)).mono ?_
     rintro r σ4 ⟨rfl, tok4, hx4, htok4⟩
     simp (maxDischargeDepth := 16) [symB, List.length_set, retK, andThen, outOf, hlen]
     rw [hdrop] at hrs2
     rw [restS_cons] at hrs2
     have hfl2 := funS_len N u
     refine next _ _ (rows ++ [(funS N u).1]) tok4 _ (by simp [hlen]) (by simp [slot_ne, h2]) (by simp [slot_ne, h8]) (by simp [slot_ne, h9]) (by simp [slot_ne, h25]) (by simp [slot_ne, h26]) (by simp [slot_ne, h27]) (by simp [setF_len, hBn]) ?_ hx4 ?_ ?_ (by simpa using htok4) (by simp; omega) ?_ ?_
     · have : Ext σ (setF B (σ.length + 2) (funS N u).2) := by
        cases (funS N u).2 with
        | none => exact hxB
        | some p => exact hxB.set (by omega)
       exact this.set (by omega)
     · rw [List.getElem?_set_ne (by omega), setF_ne _ (by omega)]; exact hbr
     · exact List.getElem?_set_self (by rw [setF_len]; omega)
     · intro e he
       rcases List.mem_append.1 he with he | he
       · exact hrw e he
       · rw [List.mem_singleton.1 he]; exact hfl2
     · cases hq : (funS N u).2 with
       | none =>
        rw [hq] at hrs2
        exact .inl ⟨by rw [List.getElem?_set_ne (by omega)]; exact hcl, by rw [hrs2]; simp⟩
       | some p =>
        rw [hq] at hrs2
        exact .inr ⟨p, by rw [List.getElem?_set_ne (by omega)]; exact List.getElem?_set_self (by omega), by rw [hrs2]⟩
   · have hbad3 : σ3[σ.length + 2]? = some (.cells [.lit (.bool true), .lit (.int .i64 p)] 53) := hx3.get hbad
     simp (maxDischargeDepth := 16) [symB, List.length_set, andThen, outOf, hlen, h9, hbad3]
     refine hK7 _ _ ?_; clear hK7 K7
     refine CW.cond (t := false) (by simp [evx_tmp, slot_eq, slot_ne, hlen]) ?_
     refine CW.skip ?_
     simp only [andThen, outOf]
     exact next _ _ rows tok B (by simp [hlen]) (by simp [slot_ne, h2]) (by simp [slot_ne, h8]) (by simp [slot_ne, h9]) (by simp [slot_ne, h25]) (by simp [slot_ne, h26]) (by simp [slot_ne, h27]) hBn hxB hx3 hbr hbp htok3 (by omega) hrw (.inr ⟨p, hbad, hrs2⟩)
 · have hlt' : ¬ (i : Int) < trees.length := by omega
   simp (maxDischargeDepth := 16) [symB, List.length_set, andThen, hlen, h26, h27, hlt', hlt]
   refine hK3 _ _ ?_; clear hK3 K3
   refine CW.seqK fun K4 hK4 => ?_
   refine CW.cond (t := false) (by simp [evx_tmp, slot_eq, slot_ne, hlen, hlt]) ?_
   refine CW.exit ?_
   simp only [andThen]
   refine hR2 _ _ _ (hR _ _ _ ?_)
   simp only [outOf, if_true, andThen]
   refine hK _ _ ?_; clear hK
   rw [List.drop_of_length_le (by omega)] at hor
   simp only [restS, List.append_nil] at hor
   refine CW.seqK fun K5 hK5 => ?_
   refine CW.seqK fun K6 hK6 => CW.region ?_
   have hbr2 := hx2.get hbr
   have hs2 : ∀ o, (σ2.set σ.length o)[σ.length]? = some o := fun o => List.getElem?_set_self (lt_of_obj hbr2)
   have hxs : ∀ o, Ext σ (σ2.set σ.length o) := fun o => (hxB.trans hx2).set (Nat.le_refl _)
   rcases hor with ⟨hcl, hrs2⟩ | ⟨p, hbad, hrs2⟩
   · have hcl3 : σ2[σ.length + 2]? = some (.cells [.lit (.bool false), .lit (.int .i64 0)] 53) := hx2.get hcl
     have hp2 : σ2[σ.length + 1]? = some (.cells [.sl [] .full, .sl [] .full, .sl rows tok, .sl [] .full] 29) := hx2.get hbp
     simp (maxDischargeDepth := 16) [symB, List.length_set, andThen, outOf, hlen, h9, hcl3]
     refine hK6 _ _ ?_; clear hK6 K6
     refine CW.cond (t := false) (by simp [evx_tmp, slot_eq, slot_ne, hlen]) ?_
     refine CW.skip ?_
     simp only [andThen]
     refine hK5 _ _ ?_; clear hK5 K5
     refine CW.seqK fun K7 hK7 => CW.region ?_
     simp (maxDischargeDepth := 16) [symB, List.length_set, andThen, hlen, h2, h8, hp2, hbr2]
     refine hK7 _ _ ?_; clear hK7 K7
     refine CW.ret (hR0 _ _ _ ⟨.tup [.agg [.sl [] .full, .sl [] .full, .sl rows tok, .sl [] .full], .lit (.int .i64 0), .lit (.int .i64 0)], ?_, ?_⟩)
     · simp [resultsA, omap, res_tmp, res_cell, slot_eq, slot_ne, hlen, h2, hs2, partA, aggT]
     · rw [hrs2]; exact ⟨⟨tok, rfl⟩, hxs _⟩
   · have hbad3 : σ2[σ.length + 2]? = some (.cells [.lit (.bool true), .lit (.int .i64 p)] 53) := hx2.get hbad
     simp (maxDischargeDepth := 16) [symB, List.length_set, andThen, outOf, hlen, h9, hbad3]
     refine hK6 _ _ ?_; clear hK6 K6
     refine CW.cond (t := true) (by simp [evx_tmp, slot_eq, slot_ne, hlen]) ?_
     refine CW.seqK fun K7 hK7 => CW.draw (by kernel_rfl) ?_
     simp (maxDischargeDepth := 16) [symB, List.length_set, andThen, hlen, h2, h9, hbad3, hbr2]
     refine ⟨drawOk_sim [σ.length + 2, σ.length] [.pure, .pure, .pure, .pure, .reads 0, .writes 1, .pure, .pure] (.cons (by simp) (.cons (by simp) .nil)) ?_ (by kernel_rfl), ?_⟩
     · exact .cons .pure (.cons .pure (.cons .pure (.cons .pure (.cons (.reads 0 _ rfl) (.cons (.writes 1 _ rfl) (.cons .pure (.cons .pure .nil)))))))
     refine hK7 _ _ ?_; clear hK7 K7
     refine CW.ret (hR0 _ _ _ ⟨.tup [.agg nilP, .lit (.int .i64 p), .lit (.int .i64 20)], ?_, ?_⟩)
     · simp [resultsA, omap, res_tmp, res_cell, slot_eq, slot_ne, hlen, h2, hs2, partA, aggT]
     · rw [hrs2]; exact ⟨rfl, hxs _⟩
end
section
open Go.RowKit
def awS1 : List UInt8 := [40, 102, 117, 110, 32, 109, 97, 105, 110, 32, 40, 40, 110, 32, 40, 105, 110, 116, 32, 116, 114, 117, 101, 41, 41, 41, 32, 40, 105, 110, 116, 32, 40, 61, 32, 118, 32, 110, 41, 41, 32, 40, 40, 114, 101, 116, 32, 110, 41, 41, 41]
def awT1 : Tr := (.mk [] [(.mk [102, 117, 110] [] false 1), (.mk [109, 97, 105, 110] [] false 5), (.mk [] [(.mk [] [(.mk [110] [] false 12), (.mk [] [(.mk [105, 110, 116] [] false 15), (.mk [116, 114, 117, 101] [] false 19)] true 14)] true 11)] true 10), (.mk [] [(.mk [105, 110, 116] [] false 28), (.mk [] [(.mk [61] [] false 33), (.mk [118] [] false 35), (.mk [110] [] false 37)] true 32)] true 27), (.mk [] [(.mk [] [(.mk [114, 101, 116] [] false 43), (.mk [110] [] false 47)] true 42)] true 41)] true 0)
theorem awP1 : ((parseT awS1).1 = [awT1]) ∧ (parseT awS1).2.2 = 0 := ⟨by kernel_rfl, by kernel_rfl⟩
theorem awH1 : headS awT1 = funW ∧ fineT awT1 ∧ 8 * sizeT awT1 + 4 ≤ 400 := by
 refine ⟨by kernel_rfl, ?_, ?_⟩
 · simp [awT1, fineT, fineL]
 · simp [awT1, sizeT_kids]
def awS2 : List UInt8 := [40, 102, 117, 110, 32, 109, 97, 105, 110, 41]
def awT2 : Tr := (.mk [] [(.mk [102, 117, 110] [] false 1), (.mk [109, 97, 105, 110] [] false 5)] true 0)
theorem awP2 : ((parseT awS2).1 = [awT2]) ∧ (parseT awS2).2.2 = 0 := ⟨by kernel_rfl, by kernel_rfl⟩
theorem awH2 : headS awT2 = funW ∧ fineT awT2 ∧ 8 * sizeT awT2 + 4 ≤ 400 := by
 refine ⟨by kernel_rfl, ?_, ?_⟩
 · simp [awT2, fineT, fineL]
 · simp [awT2, sizeT_kids]
def awS3 : List UInt8 := [40, 102, 117, 110, 32, 109, 97, 105, 110, 32, 40, 41, 32, 40, 105, 110, 116, 32, 49, 32, 50, 41, 32, 40, 40, 114, 101, 116, 32, 49, 41, 41, 41]
def awT3 : Tr := (.mk [] [(.mk [102, 117, 110] [] false 1), (.mk [109, 97, 105, 110] [] false 5), (.mk [] [] true 10), (.mk [] [(.mk [105, 110, 116] [] false 14), (.mk [49] [] false 18), (.mk [50] [] false 20)] true 13), (.mk [] [(.mk [] [(.mk [114, 101, 116] [] false 25), (.mk [49] [] false 29)] true 24)] true 23)] true 0)
theorem awP3 : ((parseT awS3).1 = [awT3]) ∧ (parseT awS3).2.2 = 0 := ⟨by kernel_rfl, by kernel_rfl⟩
theorem awH3 : headS awT3 = funW ∧ fineT awT3 ∧ 8 * sizeT awT3 + 4 ≤ 400 := by
 refine ⟨by kernel_rfl, ?_, ?_⟩
 · simp [awT3, fineT, fineL]
 · simp [awT3, sizeT_kids]
theorem awR1 : (restS (funS 400) [awT1]).2 = none ∧ (restS (funS 400) [awT1]).1.length = 1 := ⟨by kernel_rfl, by kernel_rfl⟩
theorem awR2 : (restS (funS 400) [awT2]).2 = some 0 := by kernel_rfl
theorem awR3 : (restS (funS 400) [awT3]).2 = some 13 := by kernel_rfl
theorem aw1_ev (σ : Sto) : CallW Tryz.prog (EN 400) 11 [.lit (.string (bs awS1))] σ fun r σ' => (∃ rows tok, rows.length = 1 ∧ r = .ret (.tup [.agg [.sl [] .full, .sl [] .full, .sl rows tok, .sl [] .full], .lit (.int .i64 0), .lit (.int .i64 0)])) ∧ Ext σ σ' := by
 refine (program_fun_ev 400 awS1 σ (by simp [awS1]) awP1.2 (by rw [awP1.1]; intro t h; rw [List.mem_singleton.1 h]; exact awH1) (by rw [awP1.1]; simp)).mono ?_
 rw [awP1.1, awR1.1]
 rintro r σ' ⟨⟨tok, rfl⟩, hx⟩
 exact ⟨⟨_, tok, awR1.2, rfl⟩, hx⟩
theorem aw2_ev (σ : Sto) : CallW Tryz.prog (EN 400) 11 [.lit (.string (bs awS2))] σ fun r σ' => r = .ret (.tup [.agg nilP, .lit (.int .i64 0), .lit (.int .i64 20)]) ∧ Ext σ σ' := by
 refine (program_fun_ev 400 awS2 σ (by simp [awS2]) awP2.2 (by rw [awP2.1]; intro t h; rw [List.mem_singleton.1 h]; exact awH2) (by rw [awP2.1]; simp)).mono ?_
 rw [awP2.1, awR2]
 rintro r σ' ⟨h, hx⟩
 exact ⟨h, hx⟩
theorem aw3_ev (σ : Sto) : CallW Tryz.prog (EN 400) 11 [.lit (.string (bs awS3))] σ fun r σ' => r = .ret (.tup [.agg nilP, .lit (.int .i64 13), .lit (.int .i64 20)]) ∧ Ext σ σ' := by
 refine (program_fun_ev 400 awS3 σ (by simp [awS3]) awP3.2 (by rw [awP3.1]; intro t h; rw [List.mem_singleton.1 h]; exact awH3) (by rw [awP3.1]; simp)).mono ?_
 rw [awP3.1, awR3]
 rintro r σ' ⟨h, hx⟩
 exact ⟨h, hx⟩
set_option maxRecDepth 100000 in
set_option maxHeartbeats 2000000 in
theorem awake_ev (σ : Sto) : CallW Tryz.prog (EN 400) 8 [] σ fun r σ' => r = .ret (.lit (.bool true)) ∧ Ext σ σ' := by
 refine CallW.start (fn := Tryz.f8) (M := []) rfl rfl rfl rfl (by simp) fun tm hlen hs => ?_
 clear hs
 simp at hlen
 refine CW.hide fun R0 hR0 => ?_
 refine CW.seqK fun K hK => CW.region ?_
 simp (maxDischargeDepth := 16) [symB, List.length_set, andThen, hlen]
 refine hK _ _ ?_; clear hK K
 refine CW.seqK fun K hK => CW.region ?_
 simp (maxDischargeDepth := 16) [symB, List.length_set, andThen, hlen]
 refine (aw1_ev σ).mono ?_
 rintro r σ1 ⟨⟨rows, tok, hrl, rfl⟩, hx1⟩
 simp (maxDischargeDepth := 16) [symB, List.length_set, retK, andThen, hlen, get_new, set_new]
 refine hK _ _ ?_; clear hK K
 refine CW.reset2 (fun tm σ' => tm.length = 49 ∧ slot tm 1 = .ptr σ1.length 0 ∧ slot tm 3 = .lit (.int .i64 0) ∧ σ' = σ1 ++ [.cells [.sl [] .full, .sl [] .full, .sl rows tok, .sl [] .full] 29]) ⟨by simp [hlen], by simp [slot_eq, slot_ne, hlen], by simp [slot_eq, slot_ne, hlen], rfl⟩ ?_
 clear hlen tm
 rintro tm σ2 ⟨hlen, h1, h3, hσ2⟩
 have hb2 : σ2[σ1.length]? = some (.cells [.sl [] .full, .sl [] .full, .sl rows tok, .sl [] .full] 29) := by rw [hσ2]; exact get_new _ _ _
 have hx2 : Ext σ σ2 := by rw [hσ2]; exact hx1.trans ⟨_, rfl⟩
 clear hσ2
 refine CW.seqK fun K hK => CW.region ?_
 simp (maxDischargeDepth := 16) [symB, List.length_set, andThen, hlen]
 refine (aw2_ev σ2).mono ?_
 rintro r σ3 ⟨rfl, hx3⟩
 simp (maxDischargeDepth := 16) [symB, List.length_set, retK, andThen, hlen, get_new, set_new]
 refine hK _ _ ?_; clear hK K
 refine CW.reset2 (fun tm σ' => tm.length = 49 ∧ slot tm 1 = .ptr σ1.length 0 ∧ slot tm 3 = .lit (.int .i64 0) ∧ slot tm 5 = .lit (.int .i64 0) ∧ slot tm 6 = .lit (.int .i64 20) ∧ σ' = σ3 ++ [.cells nilP 29]) ⟨by simp [hlen], by simp [slot_ne, h1], by simp [slot_ne, h3], by simp [slot_eq, slot_ne, hlen], by simp [slot_eq, slot_ne, hlen], rfl⟩ ?_
 clear hlen h1 h3 tm
 rintro tm σ4 ⟨hlen, h1, h3, h5, h6, hσ4⟩
 have hx4 : Ext σ2 σ4 := by rw [hσ4]; exact hx3.trans ⟨_, rfl⟩
 clear hσ4
 refine CW.seqK fun K hK => CW.region ?_
 simp (maxDischargeDepth := 16) [symB, List.length_set, andThen, hlen]
 refine (aw3_ev σ4).mono ?_
 rintro r σ5 ⟨rfl, hx5⟩
 simp (maxDischargeDepth := 16) [symB, List.length_set, retK, andThen, hlen, get_new, set_new]
 refine hK _ _ ?_; clear hK K
 refine CW.reset2 (fun tm σ' => tm.length = 49 ∧ slot tm 1 = .ptr σ1.length 0 ∧ slot tm 3 = .lit (.int .i64 0) ∧ slot tm 5 = .lit (.int .i64 0) ∧ slot tm 6 = .lit (.int .i64 20) ∧ slot tm 8 = .lit (.int .i64 13) ∧ slot tm 9 = .lit (.int .i64 20) ∧ σ' = σ5 ++ [.cells nilP 29]) ⟨by simp [hlen], by simp [slot_ne, h1], by simp [slot_ne, h3], by simp [slot_ne, h5], by simp [slot_ne, h6], by simp [slot_eq, slot_ne, hlen], by simp [slot_eq, slot_ne, hlen], rfl⟩ ?_
 clear hlen h1 h3 h5 h6 tm
 rintro tm σ6 ⟨hlen, h1, h3, h5, h6, h8, h9, hσ6⟩
 have hx6 : Ext σ2 σ6 := by rw [hσ6]; exact (hx4.trans hx5).trans ⟨_, rfl⟩
 have hb6 := hx6.get hb2
 clear hσ6
 refine CW.seqK fun K hK => CW.region ?_
 have hri : (rows.length : Int) = 1 := by omega
 simp (maxDischargeDepth := 16) [symB, List.length_set, andThen, hlen, h1, h3, h5, h6, h8, h9, hb6, hrl, hri]
 refine hK _ _ ?_; clear hK K
 refine CW.ret (hR0 _ _ _ ⟨.lit (.bool true), ?_, rfl, hx2.trans hx6⟩)
 simp [resultsA, omap, res_tmp, slot_eq, slot_ne, hlen, hrl, hri]
end
end Go.Proofs.YtkkblmdgedmdfaaGreatDoor
