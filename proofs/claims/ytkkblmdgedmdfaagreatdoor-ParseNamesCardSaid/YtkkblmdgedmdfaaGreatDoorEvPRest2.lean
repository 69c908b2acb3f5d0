/-
 EV: parse: rest[T] behind a fault (printed by gen_rest2.py).
-/
import Derived.Test.YtkkblmdgedmdfaaGreatDoorEvPWordM
namespace Go.Proofs.YtkkblmdgedmdfaaGreatDoor
set_option linter.unusedSimpArgs false
set_option linter.unusedVariables false
open Go.RowKit
set_option maxRecDepth 100000 in
set_option maxHeartbeats 1000000 in
theorem rest_name_bad (N : Nat) (g : RF) {t : Tr} {fid src : Nat} {p : Int} {σ : Sto} (hc : σ[fid]? = some (badO p)) (hl : t.kids.length ≤ 1000000) (hfrom : src ≤ t.kids.length) :
    CallW Tryz.prog (EN N) 91 [nodeA t fid, .lit (.int .i64 src), .fn (.func (fidOf g)) [] []] σ fun r σ' => ∃ tok, r = .ret (.sl [] tok) ∧ Ext σ σ' := by
 refine CallW.start (fn := Tryz.f91) (M := []) rfl rfl rfl rfl (by simp) fun tm hlen hs => ?_
 have h0 := hs 0 _ rfl
 have h1 := hs 1 _ rfl
 clear hs
 rw [nodeA_eq] at h0
 simp at hlen
 refine CW.hide fun R0 hR0 => ?_
 have done : ∀ (tok : Tok) (tm : List AV) (σ' : Sto), Ext σ σ' → tm.length = 35 → slot tm 6 = .sl [] tok → R0 .ret tm σ' := by
  intro tok tm σ' hx hlen h6
  refine hR0 _ _ _ ⟨.sl [] tok, ?_, tok, rfl, hx⟩
  simp [resultsA, omap, res_tmp, slot_eq, slot_ne, hlen, h6]
 clear hR0
 refine CW.seqK fun K hK => CW.region ?_
 simp (maxDischargeDepth := 16) [symB, List.length_set, andThen, hlen, h0]
 refine hK _ _ ?_; clear hK K
 refine CW.seqK fun K hK => CW.region ?_
 simp (maxDischargeDepth := 16) [symB, List.length_set, andThen, hlen]
 refine hK _ _ ?_; clear hK K
 refine CW.seqK fun K hK => ?_
 refine CW.seqK fun K hK => CW.region ?_
 simp (maxDischargeDepth := 16) [symB, List.length_set, andThen, hlen, h1]
 refine hK _ _ ?_; clear hK K
 refine CW.reset2 (fun tm σ1 => tm.length = 35 ∧ slot tm 3 = .ptr σ.length 0 ∧ slot tm 7 = .sl [] .full ∧ slot tm 8 = .lit (.int .i64 src) ∧ σ1 = σ ++ [nodeO t fid]) ⟨by simp [hlen], by simp [slot_eq, slot_ne, hlen], by simp [slot_eq, slot_ne, hlen], by simp [slot_eq, slot_ne, hlen], rfl⟩ ?_
 clear h0 h1 hlen tm
 rintro tm σ0 ⟨hlen, h3, h7, h8, hσ0⟩
 have hb0 : σ0[σ.length]? = some (.cells [.lit (.string (bs t.word)), .sl (rowsOf t.kids) .no, .lit (.bool t.row), .lit (.int .i64 t.at_), .ptr fid 0] 57) := by rw [hσ0]; exact get_new _ _ _
 have hx0 : Ext σ σ0 := by rw [hσ0]; exact ⟨_, rfl⟩
 have hc0 : σ0[fid]? = some (.cells [.lit (.bool true), .lit (.int .i64 p)] 53) := by rw [hσ0]; exact get_app hc
 clear hσ0
 have hkl : (rowsOf t.kids).length = t.kids.length := rowsOf_length _
 refine CW.block ?_
 refine CW.hide fun R hR => ?_
 refine CW.loopI (fun r tm σ1 => tm.length = 35 ∧ slot tm 3 = .ptr σ.length 0 ∧ slot tm 7 = .sl [] .full ∧ slot tm 8 = .lit (.int .i64 src) ∧ σ1 = σ0) ?_ 0 _ _ ⟨hlen, h3, h7, h8, rfl⟩
 clear h3 h7 h8 hlen tm
 rintro r tm σ1 ⟨hlen, h3, h7, h8, rfl⟩
 refine CW.hide fun R2 hR2 => ?_
 refine CW.seqK fun K3 hK3 => ?_
 refine CW.seqK fun K4 hK4 => CW.region ?_
 have out : ∀ (tm : List AV), tm.length = 35 → slot tm 7 = .sl [] .full → slot tm 23 = .lit (.bool false) → K4 tm σ1 := by
  intro tm hlen h7 h23
  refine hK4 _ _ ?_
  refine CW.cond (t := false) (by simp [evx_tmp, slot_eq, slot_ne, hlen, h23]) ?_
  refine CW.exit ?_
  simp only [andThen]
  refine hR2 _ _ _ (hR _ _ _ ?_)
  simp only [outOf, if_true, andThen]
  refine hK _ _ ?_; clear hK
  refine CW.seqK fun K5 hK5 => CW.region ?_
  simp (maxDischargeDepth := 16) [symB, List.length_set, andThen, hlen, h7]
  refine hK5 _ _ ?_
  exact CW.ret (done .full _ _ hx0 (by simp [hlen]) (by simp [slot_eq, slot_ne, hlen]))
 by_cases hlt : src < t.kids.length
 · have hlt' : (src : Int) < t.kids.length := by omega
   simp (maxDischargeDepth := 16) [symB, List.length_set, andThen, hlen, h3, h8, hb0, hkl, hlt', hlt, hc0]
   exact out _ (by simp [hlen]) (by simp [slot_ne, h7]) (by simp [slot_eq, slot_ne, hlen, hlt])
 · have hlt' : ¬ (src : Int) < t.kids.length := by omega
   simp (maxDischargeDepth := 16) [symB, List.length_set, andThen, hlen, h3, h8, hb0, hkl, hlt', hlt]
   exact out _ (by simp [hlen]) (by simp [slot_ne, h7]) (by simp [slot_eq, slot_ne, hlen, hlt])
set_option maxRecDepth 100000 in
set_option maxHeartbeats 1000000 in
theorem rest_con_bad (N : Nat) (g : RF) {t : Tr} {fid src : Nat} {p : Int} {σ : Sto} (hc : σ[fid]? = some (badO p)) (hl : t.kids.length ≤ 1000000) (hfrom : src ≤ t.kids.length) :
    CallW Tryz.prog (EN N) 40 [nodeA t fid, .lit (.int .i64 src), .fn (.func (fidOf g)) [] []] σ fun r σ' => ∃ tok, r = .ret (.sl [] tok) ∧ Ext σ σ' := by
 refine CallW.start (fn := Tryz.f40) (M := []) rfl rfl rfl rfl (by simp) fun tm hlen hs => ?_
 have h0 := hs 0 _ rfl
 have h1 := hs 1 _ rfl
 clear hs
 rw [nodeA_eq] at h0
 simp at hlen
 refine CW.hide fun R0 hR0 => ?_
 have done : ∀ (tok : Tok) (tm : List AV) (σ' : Sto), Ext σ σ' → tm.length = 35 → slot tm 6 = .sl [] tok → R0 .ret tm σ' := by
  intro tok tm σ' hx hlen h6
  refine hR0 _ _ _ ⟨.sl [] tok, ?_, tok, rfl, hx⟩
  simp [resultsA, omap, res_tmp, slot_eq, slot_ne, hlen, h6]
 clear hR0
 refine CW.seqK fun K hK => CW.region ?_
 simp (maxDischargeDepth := 16) [symB, List.length_set, andThen, hlen, h0]
 refine hK _ _ ?_; clear hK K
 refine CW.seqK fun K hK => CW.region ?_
 simp (maxDischargeDepth := 16) [symB, List.length_set, andThen, hlen]
 refine hK _ _ ?_; clear hK K
 refine CW.seqK fun K hK => ?_
 refine CW.seqK fun K hK => CW.region ?_
 simp (maxDischargeDepth := 16) [symB, List.length_set, andThen, hlen, h1]
 refine hK _ _ ?_; clear hK K
 refine CW.reset2 (fun tm σ1 => tm.length = 35 ∧ slot tm 3 = .ptr σ.length 0 ∧ slot tm 7 = .sl [] .full ∧ slot tm 8 = .lit (.int .i64 src) ∧ σ1 = σ ++ [nodeO t fid]) ⟨by simp [hlen], by simp [slot_eq, slot_ne, hlen], by simp [slot_eq, slot_ne, hlen], by simp [slot_eq, slot_ne, hlen], rfl⟩ ?_
 clear h0 h1 hlen tm
 rintro tm σ0 ⟨hlen, h3, h7, h8, hσ0⟩
 have hb0 : σ0[σ.length]? = some (.cells [.lit (.string (bs t.word)), .sl (rowsOf t.kids) .no, .lit (.bool t.row), .lit (.int .i64 t.at_), .ptr fid 0] 57) := by rw [hσ0]; exact get_new _ _ _
 have hx0 : Ext σ σ0 := by rw [hσ0]; exact ⟨_, rfl⟩
 have hc0 : σ0[fid]? = some (.cells [.lit (.bool true), .lit (.int .i64 p)] 53) := by rw [hσ0]; exact get_app hc
 clear hσ0
 have hkl : (rowsOf t.kids).length = t.kids.length := rowsOf_length _
 refine CW.block ?_
 refine CW.hide fun R hR => ?_
 refine CW.loopI (fun r tm σ1 => tm.length = 35 ∧ slot tm 3 = .ptr σ.length 0 ∧ slot tm 7 = .sl [] .full ∧ slot tm 8 = .lit (.int .i64 src) ∧ σ1 = σ0) ?_ 0 _ _ ⟨hlen, h3, h7, h8, rfl⟩
 clear h3 h7 h8 hlen tm
 rintro r tm σ1 ⟨hlen, h3, h7, h8, rfl⟩
 refine CW.hide fun R2 hR2 => ?_
 refine CW.seqK fun K3 hK3 => ?_
 refine CW.seqK fun K4 hK4 => CW.region ?_
 have out : ∀ (tm : List AV), tm.length = 35 → slot tm 7 = .sl [] .full → slot tm 23 = .lit (.bool false) → K4 tm σ1 := by
  intro tm hlen h7 h23
  refine hK4 _ _ ?_
  refine CW.cond (t := false) (by simp [evx_tmp, slot_eq, slot_ne, hlen, h23]) ?_
  refine CW.exit ?_
  simp only [andThen]
  refine hR2 _ _ _ (hR _ _ _ ?_)
  simp only [outOf, if_true, andThen]
  refine hK _ _ ?_; clear hK
  refine CW.seqK fun K5 hK5 => CW.region ?_
  simp (maxDischargeDepth := 16) [symB, List.length_set, andThen, hlen, h7]
  refine hK5 _ _ ?_
  exact CW.ret (done .full _ _ hx0 (by simp [hlen]) (by simp [slot_eq, slot_ne, hlen]))
 by_cases hlt : src < t.kids.length
 · have hlt' : (src : Int) < t.kids.length := by omega
   simp (maxDischargeDepth := 16) [symB, List.length_set, andThen, hlen, h3, h8, hb0, hkl, hlt', hlt, hc0]
   exact out _ (by simp [hlen]) (by simp [slot_ne, h7]) (by simp [slot_eq, slot_ne, hlen, hlt])
 · have hlt' : ¬ (src : Int) < t.kids.length := by omega
   simp (maxDischargeDepth := 16) [symB, List.length_set, andThen, hlen, h3, h8, hb0, hkl, hlt', hlt]
   exact out _ (by simp [hlen]) (by simp [slot_ne, h7]) (by simp [slot_eq, slot_ne, hlen, hlt])
set_option maxRecDepth 100000 in
set_option maxHeartbeats 1000000 in
theorem rest_term_bad (N : Nat) (g : RF) {t : Tr} {fid src : Nat} {p : Int} {σ : Sto} (hc : σ[fid]? = some (badO p)) (hl : t.kids.length ≤ 1000000) (hfrom : src ≤ t.kids.length) :
    CallW Tryz.prog (EN N) 75 [nodeA t fid, .lit (.int .i64 src), .fn (.func (fidOf g)) [] []] σ fun r σ' => ∃ tok, r = .ret (.sl [] tok) ∧ Ext σ σ' := by
 refine CallW.start (fn := Tryz.f75) (M := []) rfl rfl rfl rfl (by simp) fun tm hlen hs => ?_
 have h0 := hs 0 _ rfl
 have h1 := hs 1 _ rfl
 clear hs
 rw [nodeA_eq] at h0
 simp at hlen
 refine CW.hide fun R0 hR0 => ?_
 have done : ∀ (tok : Tok) (tm : List AV) (σ' : Sto), Ext σ σ' → tm.length = 35 → slot tm 6 = .sl [] tok → R0 .ret tm σ' := by
  intro tok tm σ' hx hlen h6
  refine hR0 _ _ _ ⟨.sl [] tok, ?_, tok, rfl, hx⟩
  simp [resultsA, omap, res_tmp, slot_eq, slot_ne, hlen, h6]
 clear hR0
 refine CW.seqK fun K hK => CW.region ?_
 simp (maxDischargeDepth := 16) [symB, List.length_set, andThen, hlen, h0]
 refine hK _ _ ?_; clear hK K
 refine CW.seqK fun K hK => CW.region ?_
 simp (maxDischargeDepth := 16) [symB, List.length_set, andThen, hlen]
 refine hK _ _ ?_; clear hK K
 refine CW.seqK fun K hK => ?_
 refine CW.seqK fun K hK => CW.region ?_
 simp (maxDischargeDepth := 16) [symB, List.length_set, andThen, hlen, h1]
 refine hK _ _ ?_; clear hK K
 refine CW.reset2 (fun tm σ1 => tm.length = 35 ∧ slot tm 3 = .ptr σ.length 0 ∧ slot tm 7 = .sl [] .full ∧ slot tm 8 = .lit (.int .i64 src) ∧ σ1 = σ ++ [nodeO t fid]) ⟨by simp [hlen], by simp [slot_eq, slot_ne, hlen], by simp [slot_eq, slot_ne, hlen], by simp [slot_eq, slot_ne, hlen], rfl⟩ ?_
 clear h0 h1 hlen tm
 rintro tm σ0 ⟨hlen, h3, h7, h8, hσ0⟩
 have hb0 : σ0[σ.length]? = some (.cells [.lit (.string (bs t.word)), .sl (rowsOf t.kids) .no, .lit (.bool t.row), .lit (.int .i64 t.at_), .ptr fid 0] 57) := by rw [hσ0]; exact get_new _ _ _
 have hx0 : Ext σ σ0 := by rw [hσ0]; exact ⟨_, rfl⟩
 have hc0 : σ0[fid]? = some (.cells [.lit (.bool true), .lit (.int .i64 p)] 53) := by rw [hσ0]; exact get_app hc
 clear hσ0
 have hkl : (rowsOf t.kids).length = t.kids.length := rowsOf_length _
 refine CW.block ?_
 refine CW.hide fun R hR => ?_
 refine CW.loopI (fun r tm σ1 => tm.length = 35 ∧ slot tm 3 = .ptr σ.length 0 ∧ slot tm 7 = .sl [] .full ∧ slot tm 8 = .lit (.int .i64 src) ∧ σ1 = σ0) ?_ 0 _ _ ⟨hlen, h3, h7, h8, rfl⟩
 clear h3 h7 h8 hlen tm
 rintro r tm σ1 ⟨hlen, h3, h7, h8, rfl⟩
 refine CW.hide fun R2 hR2 => ?_
 refine CW.seqK fun K3 hK3 => ?_
 refine CW.seqK fun K4 hK4 => CW.region ?_
 have out : ∀ (tm : List AV), tm.length = 35 → slot tm 7 = .sl [] .full → slot tm 23 = .lit (.bool false) → K4 tm σ1 := by
  intro tm hlen h7 h23
  refine hK4 _ _ ?_
  refine CW.cond (t := false) (by simp [evx_tmp, slot_eq, slot_ne, hlen, h23]) ?_
  refine CW.exit ?_
  simp only [andThen]
  refine hR2 _ _ _ (hR _ _ _ ?_)
  simp only [outOf, if_true, andThen]
  refine hK _ _ ?_; clear hK
  refine CW.seqK fun K5 hK5 => CW.region ?_
  simp (maxDischargeDepth := 16) [symB, List.length_set, andThen, hlen, h7]
  refine hK5 _ _ ?_
  exact CW.ret (done .full _ _ hx0 (by simp [hlen]) (by simp [slot_eq, slot_ne, hlen]))
 by_cases hlt : src < t.kids.length
 · have hlt' : (src : Int) < t.kids.length := by omega
   simp (maxDischargeDepth := 16) [symB, List.length_set, andThen, hlen, h3, h8, hb0, hkl, hlt', hlt, hc0]
   exact out _ (by simp [hlen]) (by simp [slot_ne, h7]) (by simp [slot_eq, slot_ne, hlen, hlt])
 · have hlt' : ¬ (src : Int) < t.kids.length := by omega
   simp (maxDischargeDepth := 16) [symB, List.length_set, andThen, hlen, h3, h8, hb0, hkl, hlt', hlt]
   exact out _ (by simp [hlen]) (by simp [slot_ne, h7]) (by simp [slot_eq, slot_ne, hlen, hlt])
set_option maxRecDepth 100000 in
set_option maxHeartbeats 1000000 in
theorem rest_expr_bad (N : Nat) (g : RF) {t : Tr} {fid src : Nat} {p : Int} {σ : Sto} (hc : σ[fid]? = some (badO p)) (hl : t.kids.length ≤ 1000000) (hfrom : src ≤ t.kids.length) :
    CallW Tryz.prog (EN N) 102 [nodeA t fid, .lit (.int .i64 src), .fn (.func (fidOf g)) [] []] σ fun r σ' => ∃ tok, r = .ret (.sl [] tok) ∧ Ext σ σ' := by
 refine CallW.start (fn := Tryz.f102) (M := []) rfl rfl rfl rfl (by simp) fun tm hlen hs => ?_
 have h0 := hs 0 _ rfl
 have h1 := hs 1 _ rfl
 clear hs
 rw [nodeA_eq] at h0
 simp at hlen
 refine CW.hide fun R0 hR0 => ?_
 have done : ∀ (tok : Tok) (tm : List AV) (σ' : Sto), Ext σ σ' → tm.length = 35 → slot tm 6 = .sl [] tok → R0 .ret tm σ' := by
  intro tok tm σ' hx hlen h6
  refine hR0 _ _ _ ⟨.sl [] tok, ?_, tok, rfl, hx⟩
  simp [resultsA, omap, res_tmp, slot_eq, slot_ne, hlen, h6]
 clear hR0
 refine CW.seqK fun K hK => CW.region ?_
 simp (maxDischargeDepth := 16) [symB, List.length_set, andThen, hlen, h0]
 refine hK _ _ ?_; clear hK K
 refine CW.seqK fun K hK => CW.region ?_
 simp (maxDischargeDepth := 16) [symB, List.length_set, andThen, hlen]
 refine hK _ _ ?_; clear hK K
 refine CW.seqK fun K hK => ?_
 refine CW.seqK fun K hK => CW.region ?_
 simp (maxDischargeDepth := 16) [symB, List.length_set, andThen, hlen, h1]
 refine hK _ _ ?_; clear hK K
 refine CW.reset2 (fun tm σ1 => tm.length = 35 ∧ slot tm 3 = .ptr σ.length 0 ∧ slot tm 7 = .sl [] .full ∧ slot tm 8 = .lit (.int .i64 src) ∧ σ1 = σ ++ [nodeO t fid]) ⟨by simp [hlen], by simp [slot_eq, slot_ne, hlen], by simp [slot_eq, slot_ne, hlen], by simp [slot_eq, slot_ne, hlen], rfl⟩ ?_
 clear h0 h1 hlen tm
 rintro tm σ0 ⟨hlen, h3, h7, h8, hσ0⟩
 have hb0 : σ0[σ.length]? = some (.cells [.lit (.string (bs t.word)), .sl (rowsOf t.kids) .no, .lit (.bool t.row), .lit (.int .i64 t.at_), .ptr fid 0] 57) := by rw [hσ0]; exact get_new _ _ _
 have hx0 : Ext σ σ0 := by rw [hσ0]; exact ⟨_, rfl⟩
 have hc0 : σ0[fid]? = some (.cells [.lit (.bool true), .lit (.int .i64 p)] 53) := by rw [hσ0]; exact get_app hc
 clear hσ0
 have hkl : (rowsOf t.kids).length = t.kids.length := rowsOf_length _
 refine CW.block ?_
 refine CW.hide fun R hR => ?_
 refine CW.loopI (fun r tm σ1 => tm.length = 35 ∧ slot tm 3 = .ptr σ.length 0 ∧ slot tm 7 = .sl [] .full ∧ slot tm 8 = .lit (.int .i64 src) ∧ σ1 = σ0) ?_ 0 _ _ ⟨hlen, h3, h7, h8, rfl⟩
 clear h3 h7 h8 hlen tm
 rintro r tm σ1 ⟨hlen, h3, h7, h8, rfl⟩
 refine CW.hide fun R2 hR2 => ?_
 refine CW.seqK fun K3 hK3 => ?_
 refine CW.seqK fun K4 hK4 => CW.region ?_
 have out : ∀ (tm : List AV), tm.length = 35 → slot tm 7 = .sl [] .full → slot tm 23 = .lit (.bool false) → K4 tm σ1 := by
  intro tm hlen h7 h23
  refine hK4 _ _ ?_
  refine CW.cond (t := false) (by simp [evx_tmp, slot_eq, slot_ne, hlen, h23]) ?_
  refine CW.exit ?_
  simp only [andThen]
  refine hR2 _ _ _ (hR _ _ _ ?_)
  simp only [outOf, if_true, andThen]
  refine hK _ _ ?_; clear hK
  refine CW.seqK fun K5 hK5 => CW.region ?_
  simp (maxDischargeDepth := 16) [symB, List.length_set, andThen, hlen, h7]
  refine hK5 _ _ ?_
  exact CW.ret (done .full _ _ hx0 (by simp [hlen]) (by simp [slot_eq, slot_ne, hlen]))
 by_cases hlt : src < t.kids.length
 · have hlt' : (src : Int) < t.kids.length := by omega
   simp (maxDischargeDepth := 16) [symB, List.length_set, andThen, hlen, h3, h8, hb0, hkl, hlt', hlt, hc0]
   exact out _ (by simp [hlen]) (by simp [slot_ne, h7]) (by simp [slot_eq, slot_ne, hlen, hlt])
 · have hlt' : ¬ (src : Int) < t.kids.length := by omega
   simp (maxDischargeDepth := 16) [symB, List.length_set, andThen, hlen, h3, h8, hb0, hkl, hlt', hlt]
   exact out _ (by simp [hlen]) (by simp [slot_ne, h7]) (by simp [slot_eq, slot_ne, hlen, hlt])
set_option maxRecDepth 100000 in
set_option maxHeartbeats 1000000 in
theorem rest_arm_bad (N : Nat) (g : RF) {t : Tr} {fid src : Nat} {p : Int} {σ : Sto} (hc : σ[fid]? = some (badO p)) (hl : t.kids.length ≤ 1000000) (hfrom : src ≤ t.kids.length) :
    CallW Tryz.prog (EN N) 138 [nodeA t fid, .lit (.int .i64 src), .fn (.func (fidOf g)) [] []] σ fun r σ' => ∃ tok, r = .ret (.sl [] tok) ∧ Ext σ σ' := by
 refine CallW.start (fn := Tryz.f138) (M := []) rfl rfl rfl rfl (by simp) fun tm hlen hs => ?_
 have h0 := hs 0 _ rfl
 have h1 := hs 1 _ rfl
 clear hs
 rw [nodeA_eq] at h0
 simp at hlen
 refine CW.hide fun R0 hR0 => ?_
 have done : ∀ (tok : Tok) (tm : List AV) (σ' : Sto), Ext σ σ' → tm.length = 35 → slot tm 6 = .sl [] tok → R0 .ret tm σ' := by
  intro tok tm σ' hx hlen h6
  refine hR0 _ _ _ ⟨.sl [] tok, ?_, tok, rfl, hx⟩
  simp [resultsA, omap, res_tmp, slot_eq, slot_ne, hlen, h6]
 clear hR0
 refine CW.seqK fun K hK => CW.region ?_
 simp (maxDischargeDepth := 16) [symB, List.length_set, andThen, hlen, h0]
 refine hK _ _ ?_; clear hK K
 refine CW.seqK fun K hK => CW.region ?_
 simp (maxDischargeDepth := 16) [symB, List.length_set, andThen, hlen]
 refine hK _ _ ?_; clear hK K
 refine CW.seqK fun K hK => ?_
 refine CW.seqK fun K hK => CW.region ?_
 simp (maxDischargeDepth := 16) [symB, List.length_set, andThen, hlen, h1]
 refine hK _ _ ?_; clear hK K
 refine CW.reset2 (fun tm σ1 => tm.length = 35 ∧ slot tm 3 = .ptr σ.length 0 ∧ slot tm 7 = .sl [] .full ∧ slot tm 8 = .lit (.int .i64 src) ∧ σ1 = σ ++ [nodeO t fid]) ⟨by simp [hlen], by simp [slot_eq, slot_ne, hlen], by simp [slot_eq, slot_ne, hlen], by simp [slot_eq, slot_ne, hlen], rfl⟩ ?_
 clear h0 h1 hlen tm
 rintro tm σ0 ⟨hlen, h3, h7, h8, hσ0⟩
 have hb0 : σ0[σ.length]? = some (.cells [.lit (.string (bs t.word)), .sl (rowsOf t.kids) .no, .lit (.bool t.row), .lit (.int .i64 t.at_), .ptr fid 0] 57) := by rw [hσ0]; exact get_new _ _ _
 have hx0 : Ext σ σ0 := by rw [hσ0]; exact ⟨_, rfl⟩
 have hc0 : σ0[fid]? = some (.cells [.lit (.bool true), .lit (.int .i64 p)] 53) := by rw [hσ0]; exact get_app hc
 clear hσ0
 have hkl : (rowsOf t.kids).length = t.kids.length := rowsOf_length _
 refine CW.block ?_
 refine CW.hide fun R hR => ?_
 refine CW.loopI (fun r tm σ1 => tm.length = 35 ∧ slot tm 3 = .ptr σ.length 0 ∧ slot tm 7 = .sl [] .full ∧ slot tm 8 = .lit (.int .i64 src) ∧ σ1 = σ0) ?_ 0 _ _ ⟨hlen, h3, h7, h8, rfl⟩
 clear h3 h7 h8 hlen tm
 rintro r tm σ1 ⟨hlen, h3, h7, h8, rfl⟩
 refine CW.hide fun R2 hR2 => ?_
 refine CW.seqK fun K3 hK3 => ?_
 refine CW.seqK fun K4 hK4 => CW.region ?_
 have out : ∀ (tm : List AV), tm.length = 35 → slot tm 7 = .sl [] .full → slot tm 23 = .lit (.bool false) → K4 tm σ1 := by
  intro tm hlen h7 h23
  refine hK4 _ _ ?_
  refine CW.cond (t := false) (by simp [evx_tmp, slot_eq, slot_ne, hlen, h23]) ?_
  refine CW.exit ?_
  simp only [andThen]
  refine hR2 _ _ _ (hR _ _ _ ?_)
  simp only [outOf, if_true, andThen]
  refine hK _ _ ?_; clear hK
  refine CW.seqK fun K5 hK5 => CW.region ?_
  simp (maxDischargeDepth := 16) [symB, List.length_set, andThen, hlen, h7]
  refine hK5 _ _ ?_
  exact CW.ret (done .full _ _ hx0 (by simp [hlen]) (by simp [slot_eq, slot_ne, hlen]))
 by_cases hlt : src < t.kids.length
 · have hlt' : (src : Int) < t.kids.length := by omega
   simp (maxDischargeDepth := 16) [symB, List.length_set, andThen, hlen, h3, h8, hb0, hkl, hlt', hlt, hc0]
   exact out _ (by simp [hlen]) (by simp [slot_ne, h7]) (by simp [slot_eq, slot_ne, hlen, hlt])
 · have hlt' : ¬ (src : Int) < t.kids.length := by omega
   simp (maxDischargeDepth := 16) [symB, List.length_set, andThen, hlen, h3, h8, hb0, hkl, hlt', hlt]
   exact out _ (by simp [hlen]) (by simp [slot_ne, h7]) (by simp [slot_eq, slot_ne, hlen, hlt])
set_option maxRecDepth 100000 in
set_option maxHeartbeats 1000000 in
theorem rest_atom_bad (N : Nat) (g : RF) {t : Tr} {fid src : Nat} {p : Int} {σ : Sto} (hc : σ[fid]? = some (badO p)) (hl : t.kids.length ≤ 1000000) (hfrom : src ≤ t.kids.length) :
    CallW Tryz.prog (EN N) 177 [nodeA t fid, .lit (.int .i64 src), .fn (.func (fidOf g)) [] []] σ fun r σ' => ∃ tok, r = .ret (.sl [] tok) ∧ Ext σ σ' := by
 refine CallW.start (fn := Tryz.f177) (M := []) rfl rfl rfl rfl (by simp) fun tm hlen hs => ?_
 have h0 := hs 0 _ rfl
 have h1 := hs 1 _ rfl
 clear hs
 rw [nodeA_eq] at h0
 simp at hlen
 refine CW.hide fun R0 hR0 => ?_
 have done : ∀ (tok : Tok) (tm : List AV) (σ' : Sto), Ext σ σ' → tm.length = 35 → slot tm 6 = .sl [] tok → R0 .ret tm σ' := by
  intro tok tm σ' hx hlen h6
  refine hR0 _ _ _ ⟨.sl [] tok, ?_, tok, rfl, hx⟩
  simp [resultsA, omap, res_tmp, slot_eq, slot_ne, hlen, h6]
 clear hR0
 refine CW.seqK fun K hK => CW.region ?_
 simp (maxDischargeDepth := 16) [symB, List.length_set, andThen, hlen, h0]
 refine hK _ _ ?_; clear hK K
 refine CW.seqK fun K hK => CW.region ?_
 simp (maxDischargeDepth := 16) [symB, List.length_set, andThen, hlen]
 refine hK _ _ ?_; clear hK K
 refine CW.seqK fun K hK => ?_
 refine CW.seqK fun K hK => CW.region ?_
 simp (maxDischargeDepth := 16) [symB, List.length_set, andThen, hlen, h1]
 refine hK _ _ ?_; clear hK K
 refine CW.reset2 (fun tm σ1 => tm.length = 35 ∧ slot tm 3 = .ptr σ.length 0 ∧ slot tm 7 = .sl [] .full ∧ slot tm 8 = .lit (.int .i64 src) ∧ σ1 = σ ++ [nodeO t fid]) ⟨by simp [hlen], by simp [slot_eq, slot_ne, hlen], by simp [slot_eq, slot_ne, hlen], by simp [slot_eq, slot_ne, hlen], rfl⟩ ?_
 clear h0 h1 hlen tm
 rintro tm σ0 ⟨hlen, h3, h7, h8, hσ0⟩
 have hb0 : σ0[σ.length]? = some (.cells [.lit (.string (bs t.word)), .sl (rowsOf t.kids) .no, .lit (.bool t.row), .lit (.int .i64 t.at_), .ptr fid 0] 57) := by rw [hσ0]; exact get_new _ _ _
 have hx0 : Ext σ σ0 := by rw [hσ0]; exact ⟨_, rfl⟩
 have hc0 : σ0[fid]? = some (.cells [.lit (.bool true), .lit (.int .i64 p)] 53) := by rw [hσ0]; exact get_app hc
 clear hσ0
 have hkl : (rowsOf t.kids).length = t.kids.length := rowsOf_length _
 refine CW.block ?_
 refine CW.hide fun R hR => ?_
 refine CW.loopI (fun r tm σ1 => tm.length = 35 ∧ slot tm 3 = .ptr σ.length 0 ∧ slot tm 7 = .sl [] .full ∧ slot tm 8 = .lit (.int .i64 src) ∧ σ1 = σ0) ?_ 0 _ _ ⟨hlen, h3, h7, h8, rfl⟩
 clear h3 h7 h8 hlen tm
 rintro r tm σ1 ⟨hlen, h3, h7, h8, rfl⟩
 refine CW.hide fun R2 hR2 => ?_
 refine CW.seqK fun K3 hK3 => ?_
 refine CW.seqK fun K4 hK4 => CW.region ?_
 have out : ∀ (tm : List AV), tm.length = 35 → slot tm 7 = .sl [] .full → slot tm 23 = .lit (.bool false) → K4 tm σ1 := by
  intro tm hlen h7 h23
  refine hK4 _ _ ?_
  refine CW.cond (t := false) (by simp [evx_tmp, slot_eq, slot_ne, hlen, h23]) ?_
  refine CW.exit ?_
  simp only [andThen]
  refine hR2 _ _ _ (hR _ _ _ ?_)
  simp only [outOf, if_true, andThen]
  refine hK _ _ ?_; clear hK
  refine CW.seqK fun K5 hK5 => CW.region ?_
  simp (maxDischargeDepth := 16) [symB, List.length_set, andThen, hlen, h7]
  refine hK5 _ _ ?_
  exact CW.ret (done .full _ _ hx0 (by simp [hlen]) (by simp [slot_eq, slot_ne, hlen]))
 by_cases hlt : src < t.kids.length
 · have hlt' : (src : Int) < t.kids.length := by omega
   simp (maxDischargeDepth := 16) [symB, List.length_set, andThen, hlen, h3, h8, hb0, hkl, hlt', hlt, hc0]
   exact out _ (by simp [hlen]) (by simp [slot_ne, h7]) (by simp [slot_eq, slot_ne, hlen, hlt])
 · have hlt' : ¬ (src : Int) < t.kids.length := by omega
   simp (maxDischargeDepth := 16) [symB, List.length_set, andThen, hlen, h3, h8, hb0, hkl, hlt', hlt]
   exact out _ (by simp [hlen]) (by simp [slot_ne, h7]) (by simp [slot_eq, slot_ne, hlen, hlt])
theorem rest_name_any (N : Nat) (g : RF) (hg : lenR g = 1) {t : Tr} {fid src : Nat} {σ σb : Sto} (o : Option Int) (hx : Ext (setF σb fid o) σ) (hf : fineL t.kids) (hn : ∀ u ∈ t.kids, 8 * sizeT u + rank g ≤ N) (hc : σb[fid]? = some cleanO) (hl : t.kids.length ≤ 1000000) (hfrom : src ≤ t.kids.length) :
    CallW Tryz.prog (EN N) 91 [nodeA t fid, .lit (.int .i64 src), .fn (.func (fidOf g)) [] []] σ fun r σ' => ∃ tok, r = .ret (.sl (restO o (rd N g) (t.kids.drop src)).1 tok) ∧ Ext (setF σb fid (restO o (rd N g) (t.kids.drop src)).2) σ' ∧ Ext (setF σ fid (if o.isNone then (restO o (rd N g) (t.kids.drop src)).2 else none)) σ' := by
 cases o with
 | none =>
  refine (rest_name_ev N g hg hf hn (hx.get hc) hl hfrom).mono ?_
  rintro r σ' ⟨tok, rfl, he⟩
  exact ⟨tok, rfl, (setF_ext _ hx (lt_of_obj hc)).trans he, he⟩
 | some p =>
  have hb : σ[fid]? = some (badO p) := hx.get (List.getElem?_set_self (lt_of_obj hc))
  refine (rest_name_bad N g hb hl hfrom).mono ?_
  rintro r σ' ⟨tok, rfl, he⟩
  exact ⟨tok, rfl, hx.trans he, he⟩
theorem rest_con_any (N : Nat) (g : RF) (hg : lenR g = 2) {t : Tr} {fid src : Nat} {σ σb : Sto} (o : Option Int) (hx : Ext (setF σb fid o) σ) (hf : fineL t.kids) (hn : ∀ u ∈ t.kids, 8 * sizeT u + rank g ≤ N) (hc : σb[fid]? = some cleanO) (hl : t.kids.length ≤ 1000000) (hfrom : src ≤ t.kids.length) :
    CallW Tryz.prog (EN N) 40 [nodeA t fid, .lit (.int .i64 src), .fn (.func (fidOf g)) [] []] σ fun r σ' => ∃ tok, r = .ret (.sl (restO o (rd N g) (t.kids.drop src)).1 tok) ∧ Ext (setF σb fid (restO o (rd N g) (t.kids.drop src)).2) σ' ∧ Ext (setF σ fid (if o.isNone then (restO o (rd N g) (t.kids.drop src)).2 else none)) σ' := by
 cases o with
 | none =>
  refine (rest_con_ev N g hg hf hn (hx.get hc) hl hfrom).mono ?_
  rintro r σ' ⟨tok, rfl, he⟩
  exact ⟨tok, rfl, (setF_ext _ hx (lt_of_obj hc)).trans he, he⟩
 | some p =>
  have hb : σ[fid]? = some (badO p) := hx.get (List.getElem?_set_self (lt_of_obj hc))
  refine (rest_con_bad N g hb hl hfrom).mono ?_
  rintro r σ' ⟨tok, rfl, he⟩
  exact ⟨tok, rfl, hx.trans he, he⟩
theorem rest_term_any (N : Nat) (g : RF) (hg : lenR g = 5) {t : Tr} {fid src : Nat} {σ σb : Sto} (o : Option Int) (hx : Ext (setF σb fid o) σ) (hf : fineL t.kids) (hn : ∀ u ∈ t.kids, 8 * sizeT u + rank g ≤ N) (hc : σb[fid]? = some cleanO) (hl : t.kids.length ≤ 1000000) (hfrom : src ≤ t.kids.length) :
    CallW Tryz.prog (EN N) 75 [nodeA t fid, .lit (.int .i64 src), .fn (.func (fidOf g)) [] []] σ fun r σ' => ∃ tok, r = .ret (.sl (restO o (rd N g) (t.kids.drop src)).1 tok) ∧ Ext (setF σb fid (restO o (rd N g) (t.kids.drop src)).2) σ' ∧ Ext (setF σ fid (if o.isNone then (restO o (rd N g) (t.kids.drop src)).2 else none)) σ' := by
 cases o with
 | none =>
  refine (rest_term_ev N g hg hf hn (hx.get hc) hl hfrom).mono ?_
  rintro r σ' ⟨tok, rfl, he⟩
  exact ⟨tok, rfl, (setF_ext _ hx (lt_of_obj hc)).trans he, he⟩
 | some p =>
  have hb : σ[fid]? = some (badO p) := hx.get (List.getElem?_set_self (lt_of_obj hc))
  refine (rest_term_bad N g hb hl hfrom).mono ?_
  rintro r σ' ⟨tok, rfl, he⟩
  exact ⟨tok, rfl, hx.trans he, he⟩
theorem rest_expr_any (N : Nat) (g : RF) (hg : lenR g = 11) {t : Tr} {fid src : Nat} {σ σb : Sto} (o : Option Int) (hx : Ext (setF σb fid o) σ) (hf : fineL t.kids) (hn : ∀ u ∈ t.kids, 8 * sizeT u + rank g ≤ N) (hc : σb[fid]? = some cleanO) (hl : t.kids.length ≤ 1000000) (hfrom : src ≤ t.kids.length) :
    CallW Tryz.prog (EN N) 102 [nodeA t fid, .lit (.int .i64 src), .fn (.func (fidOf g)) [] []] σ fun r σ' => ∃ tok, r = .ret (.sl (restO o (rd N g) (t.kids.drop src)).1 tok) ∧ Ext (setF σb fid (restO o (rd N g) (t.kids.drop src)).2) σ' ∧ Ext (setF σ fid (if o.isNone then (restO o (rd N g) (t.kids.drop src)).2 else none)) σ' := by
 cases o with
 | none =>
  refine (rest_expr_ev N g hg hf hn (hx.get hc) hl hfrom).mono ?_
  rintro r σ' ⟨tok, rfl, he⟩
  exact ⟨tok, rfl, (setF_ext _ hx (lt_of_obj hc)).trans he, he⟩
 | some p =>
  have hb : σ[fid]? = some (badO p) := hx.get (List.getElem?_set_self (lt_of_obj hc))
  refine (rest_expr_bad N g hb hl hfrom).mono ?_
  rintro r σ' ⟨tok, rfl, he⟩
  exact ⟨tok, rfl, hx.trans he, he⟩
theorem rest_arm_any (N : Nat) (g : RF) (hg : lenR g = 3) {t : Tr} {fid src : Nat} {σ σb : Sto} (o : Option Int) (hx : Ext (setF σb fid o) σ) (hf : fineL t.kids) (hn : ∀ u ∈ t.kids, 8 * sizeT u + rank g ≤ N) (hc : σb[fid]? = some cleanO) (hl : t.kids.length ≤ 1000000) (hfrom : src ≤ t.kids.length) :
    CallW Tryz.prog (EN N) 138 [nodeA t fid, .lit (.int .i64 src), .fn (.func (fidOf g)) [] []] σ fun r σ' => ∃ tok, r = .ret (.sl (restO o (rd N g) (t.kids.drop src)).1 tok) ∧ Ext (setF σb fid (restO o (rd N g) (t.kids.drop src)).2) σ' ∧ Ext (setF σ fid (if o.isNone then (restO o (rd N g) (t.kids.drop src)).2 else none)) σ' := by
 cases o with
 | none =>
  refine (rest_arm_ev N g hg hf hn (hx.get hc) hl hfrom).mono ?_
  rintro r σ' ⟨tok, rfl, he⟩
  exact ⟨tok, rfl, (setF_ext _ hx (lt_of_obj hc)).trans he, he⟩
 | some p =>
  have hb : σ[fid]? = some (badO p) := hx.get (List.getElem?_set_self (lt_of_obj hc))
  refine (rest_arm_bad N g hb hl hfrom).mono ?_
  rintro r σ' ⟨tok, rfl, he⟩
  exact ⟨tok, rfl, hx.trans he, he⟩
theorem rest_atom_any (N : Nat) (g : RF) (hg : lenR g = 5) {t : Tr} {fid src : Nat} {σ σb : Sto} (o : Option Int) (hx : Ext (setF σb fid o) σ) (hf : fineL t.kids) (hn : ∀ u ∈ t.kids, 8 * sizeT u + rank g ≤ N) (hc : σb[fid]? = some cleanO) (hl : t.kids.length ≤ 1000000) (hfrom : src ≤ t.kids.length) :
    CallW Tryz.prog (EN N) 177 [nodeA t fid, .lit (.int .i64 src), .fn (.func (fidOf g)) [] []] σ fun r σ' => ∃ tok, r = .ret (.sl (restO o (rd N g) (t.kids.drop src)).1 tok) ∧ Ext (setF σb fid (restO o (rd N g) (t.kids.drop src)).2) σ' ∧ Ext (setF σ fid (if o.isNone then (restO o (rd N g) (t.kids.drop src)).2 else none)) σ' := by
 cases o with
 | none =>
  refine (rest_atom_ev N g hg hf hn (hx.get hc) hl hfrom).mono ?_
  rintro r σ' ⟨tok, rfl, he⟩
  exact ⟨tok, rfl, (setF_ext _ hx (lt_of_obj hc)).trans he, he⟩
 | some p =>
  have hb : σ[fid]? = some (badO p) := hx.get (List.getElem?_set_self (lt_of_obj hc))
  refine (rest_atom_bad N g hb hl hfrom).mono ?_
  rintro r σ' ⟨tok, rfl, he⟩
  exact ⟨tok, rfl, hx.trans he, he⟩
end Go.Proofs.YtkkblmdgedmdfaaGreatDoor
