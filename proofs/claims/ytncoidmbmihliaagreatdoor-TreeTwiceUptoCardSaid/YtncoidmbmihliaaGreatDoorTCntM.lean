/-
  EV: the package tree: own, Count.
-/
import Derived.Test.YtncoidmbmihliaaGreatDoorTSameM
namespace Go.Proofs.YtncoidmbmihliaaGreatDoor
set_option linter.unusedSimpArgs false
set_option linter.unusedVariables false
open Go.RowKit

variable {S : Sp} {N : Nat}
def ownK (k : Int) : Bool := decide (k = 2) || decide (k = 3) || decide (k = 4)
def Exp.kd : Exp → Int
  | .mk k _ _ _ _ _ _ => k
abbrev ownF : FS := smF (fun e : Exp => [.agg e.cs]) (fun e => .lit (.bool (ownK e.kd))) (fun _ => True) (fun _ => 0) 0
theorem exp1_inj (a b : Exp) (e : [AV.agg a.cs] = [.agg b.cs]) : a = b := by simp only [List.cons.injEq, and_true, AV.agg.injEq] at e; exact Exp.inj e
set_option maxRecDepth 100000 in
set_option maxHeartbeats 1000000 in
theorem own_w (hc : S.code = codeP Tryz.prog) (hm : S.ms 48 = []) : SmOk Tryz.prog S N 48 (fun e : Exp => [.agg e.cs]) (fun e => .lit (.bool (ownK e.kd))) (fun _ => True) (fun _ => 0) 0 := by
  intro e σ _ hN
  refine JC.startF (fn := Tryz.f48) (codeOf hc Tryz.func48 rfl (by kernel_rfl)) rfl hm rfl (Nat.le_of_ble_eq_true rfl) fun tm => ?_
  refine CW.hide fun R0 hR0 => ?_
  obtain ⟨k, nm, ty, rh, ⟨amk, amnm, amng, amdg, amtr⟩, ar, bd⟩ := e
  simp only [Exp.cs, Exp.kd]
  refine CW.seqK fun K hK => CW.region ?_
  simp (maxDischargeDepth := 16) [symX, List.length_set]
  refine hK _ _ ?_; clear hK K
  refine CW.seqK fun K hK => CW.region ?_
  rcases Classical.em (k = 2) with h | h
  · simp (maxDischargeDepth := 16) [symX, List.length_set, h]
    exact hK _ _ (CW.ret (hR0 _ _ _ ⟨.lit (.bool true), by simp [resultsA, omap, res_tmp, symF, lk], by simp [ownK, Exp.kd, h]; exact done rfl rfl⟩))
  rcases Classical.em (k = 3) with h2 | h2
  · simp (maxDischargeDepth := 16) [symX, List.length_set, h, h2]
    exact hK _ _ (CW.ret (hR0 _ _ _ ⟨.lit (.bool true), by simp [resultsA, omap, res_tmp, symF, lk], by simp [ownK, Exp.kd, h2]; exact done rfl rfl⟩))
  rcases Classical.em (k = 4) with h3 | h3
  · simp (maxDischargeDepth := 16) [symX, List.length_set, h, h2, h3]
    exact hK _ _ (CW.ret (hR0 _ _ _ ⟨.lit (.bool true), by simp [resultsA, omap, res_tmp, symF, lk], by simp [ownK, Exp.kd, h3]; exact done rfl rfl⟩))
  simp (maxDischargeDepth := 16) [symX, List.length_set, h, h2, h3]
  exact hK _ _ (CW.ret (hR0 _ _ _ ⟨.lit (.bool false), by simp [resultsA, omap, res_tmp, symF, lk, h3], by simp [ownK, Exp.kd, h, h2, h3]; exact done rfl rfl⟩))

def ownN (k : Int) : Nat := if ownK k then 1 else 0
theorem ownN_le (k : Int) : ownN k ≤ 1 := by unfold ownN; split <;> simp
mutual
def Exp.cr : Exp → Nat
  | .mk k nm ty rh am ar bd => ownN k + rhsCt rh + armCt ar + (bd.length + expCr bd)
def expCr : List Exp → Nat
  | [] => 0
  | x :: l => x.cr + expCr l
def Rhs.ct : Rhs → Nat
  | .mk k nm ats ps rs bd ts => ats.length + (bd.length + expCr bd)
def rhsCt : List Rhs → Nat
  | [] => 0
  | x :: l => x.ct + rhsCt l
def Arm.ct : Arm → Nat
  | .mk cn ns bd => bd.length + expCr bd
def armCt : List Arm → Nat
  | [] => 0
  | x :: l => x.ct + armCt l
end
def cntN (l : List Exp) : Nat := l.length + expCr l
mutual
theorem Exp.cr_le : ∀ e : Exp, e.cr + 1 ≤ e.w
  | .mk k nm ty rh am ar bd => by
    have h1 := am.w_pos
    have h2 := rhsCt_le rh
    have h3 := armCt_le ar
    have h4 := expCr_le bd
    have h5 := ownN_le k
    simp only [Exp.cr, Exp.w]
    omega
theorem expCr_le : ∀ l : List Exp, l.length + expCr l ≤ expW l
  | [] => by simp [expCr, expW]
  | x :: l => by have := x.cr_le; have := expCr_le l; simp only [expCr, expW, List.length_cons]; omega
theorem Rhs.ct_le : ∀ e : Rhs, e.ct ≤ e.w
  | .mk k nm ats ps rs bd ts => by have := atmW_len ats; have := expCr_le bd; simp only [Rhs.ct, Rhs.w]; omega
theorem rhsCt_le : ∀ l : List Rhs, rhsCt l ≤ rhsW l
  | [] => by simp [rhsCt, rhsW]
  | x :: l => by have := x.ct_le; have := rhsCt_le l; simp only [rhsCt, rhsW]; omega
theorem Arm.ct_le : ∀ e : Arm, e.ct ≤ e.w
  | .mk cn ns bd => by have := expCr_le bd; simp only [Arm.ct, Arm.w]; omega
theorem armCt_le : ∀ l : List Arm, armCt l ≤ armW l
  | [] => by simp [armCt, armW]
  | x :: l => by have := x.ct_le; have := armCt_le l; simp only [armCt, armW]; omega
end
theorem cntN_le (l : List Exp) : cntN l ≤ expW l := expCr_le l
theorem expCr_take {l : List Exp} {i : Nat} (h : i < l.length) : expCr (l.take (i + 1)) = expCr (l.take i) + l[i].cr := by
  induction l generalizing i with
  | nil => simp at h
  | cons x l ih =>
    cases i with
    | zero => simp [expCr]
    | succ i => have := ih (i := i) (by simpa using h); simp only [List.take_succ_cons, expCr, List.getElem_cons_succ, this]; omega
theorem rhsCt_take {l : List Rhs} {i : Nat} (h : i < l.length) : rhsCt (l.take (i + 1)) = rhsCt (l.take i) + l[i].ct := by
  induction l generalizing i with
  | nil => simp at h
  | cons x l ih =>
    cases i with
    | zero => simp [rhsCt]
    | succ i => have := ih (i := i) (by simpa using h); simp only [List.take_succ_cons, rhsCt, List.getElem_cons_succ, this]; omega
theorem armCt_take {l : List Arm} {i : Nat} (h : i < l.length) : armCt (l.take (i + 1)) = armCt (l.take i) + l[i].ct := by
  induction l generalizing i with
  | nil => simp at h
  | cons x l ih =>
    cases i with
    | zero => simp [armCt]
    | succ i => have := ih (i := i) (by simpa using h); simp only [List.take_succ_cons, armCt, List.getElem_cons_succ, this]; omega
theorem take_le_all {α : Type} (f : List α → Nat) (hf : ∀ a b, f (a ++ b) = f a + f b) (l : List α) (i : Nat) : f (l.take i) ≤ f l := by
  have := hf (l.take i) (l.drop i)
  rw [List.take_append_drop] at this
  omega
theorem expCr_app : ∀ a b : List Exp, expCr (a ++ b) = expCr a + expCr b
  | [], b => by simp [expCr]
  | x :: a, b => by rw [List.cons_append, expCr, expCr, expCr_app a b]; omega
theorem rhsCt_app : ∀ a b : List Rhs, rhsCt (a ++ b) = rhsCt a + rhsCt b
  | [], b => by simp [rhsCt]
  | x :: a, b => by rw [List.cons_append, rhsCt, rhsCt, rhsCt_app a b]; omega
theorem armCt_app : ∀ a b : List Arm, armCt (a ++ b) = armCt a + armCt b
  | [], b => by simp [armCt]
  | x :: a, b => by rw [List.cons_append, armCt, armCt, armCt_app a b]; omega
abbrev countF : FS := smF (fun l : List Exp => [.sl (expR l) .no]) (fun l => intV (cntN l : Nat)) (fun l => expW l ≤ 1000000000000) expW 5
theorem exps1_inj (a b : List Exp) (e : [AV.sl (expR a) .no] = [.sl (expR b) .no]) : a = b := by simp only [List.cons.injEq, and_true, AV.sl.injEq] at e; exact expR_inj e
set_option maxRecDepth 100000 in
set_option maxHeartbeats 4000000 in
theorem Count_w (hc : S.code = codeP Tryz.prog) (hm : S.ms 13 = []) (h1 : S.sp 48 = some ownF) (h2 : S.sp 13 = some countF) : SmOk Tryz.prog S N 13 (fun l : List Exp => [.sl (expR l) .no]) (fun l => intV (cntN l : Nat)) (fun l => expW l ≤ 1000000000000) expW 5 := by
  intro l σ hl hN
  refine JC.startF (fn := Tryz.f13) (codeOf hc Tryz.func13 rfl (by kernel_rfl)) rfl hm rfl (Nat.le_of_ble_eq_true rfl) fun tm => ?_
  refine CW.hide fun R0 hR0 => ?_
  have hcn := cntN_le l
  have hll := expW_len l
  unfold cntN at hcn
  refine CW.seqK fun K hK => CW.region ?_
  simp (maxDischargeDepth := 16) [symX, List.length_set]
  refine hK _ _ ?_; clear hK K
  refine CW.seqK fun K hK => CW.region ?_
  simp (maxDischargeDepth := 16) [symX, List.length_set]
  refine hK _ _ ?_; clear hK K
  refine CW.seqK fun K hK => ?_
  refine CW.seqK fun K hK => CW.region ?_
  simp (maxDischargeDepth := 16) [symX, List.length_set]
  refine hK _ _ ?_; clear hK K
  refine CW.block (CW.hide fun R hR => ?_)
  refine CW.loopF (fun p : Nat × Int × List AObj => [(3, intV p.2.1), (12, .sl (expR l) .no), (13, intV l.length), (14, intV p.1)]) (fun p => σ ++ p.2.2) (fun p => p.1 ≤ l.length ∧ p.2.1 = ((l.length + expCr (l.take p.1) : Nat) : Int)) (fun p => l.length - p.1) (0, (l.length : Int), []) (by simp [sub, lk]) (by simp) ⟨by simp, by simp [expCr]⟩ ?_
  rintro ⟨i, n, g⟩ tm ⟨hi, hn⟩
  dsimp only at hi hn ⊢
  refine CW.hide fun R2 hR2 => CW.seqK fun K4 hK4 => CW.region ?_
  rcases Nat.lt_or_ge i l.length with hlt | hge
  · simp (maxDischargeDepth := 16) [symX, List.length_set, hlt]
    refine hK4 _ _ ?_
    refine CW.seqK fun K3 hK3 => ?_
    refine CW.cond (t := true) (by simp [evx_tmp, symF, lk]) ?_
    refine CW.skip (hK3 _ _ ?_)
    refine CW.seqK fun K5 hK5 => CW.block ?_
    have ha := expR_get hlt
    have hgw := expW_get hlt
    have htk := expCr_take hlt
    have htl := take_le_all expCr expCr_app l (i + 1)
    have fin : ∀ (n2 : Int) (g2 : List AObj) (fr : List (Nat × AV)) (tm : List AV), n2 = ((l.length + expCr (l.take (i + 1)) : Nat) : Int) → sub [(3, intV n2), (12, .sl (expR l) .no), (13, intV l.length), (14, intV i)] fr → K5 (fm 59 fr tm) (σ ++ g2) := by
      intro n2 g2 fr tm e hfr
      rw [fm_sub hfr]
      refine hK5 _ _ ?_
      refine CW.region ?_
      simp (maxDischargeDepth := 16) [symX, List.length_set, wrap_succ (show i ≤ 1000000000000 by omega)]
      exact hR2 _ _ _ ⟨(i + 1, n2, g2), _, _, rfl, by simp [sub, lk], rfl, ⟨by show i + 1 ≤ _; omega, e⟩, by show l.length - (i + 1) < l.length - i; omega⟩
    refine CW.seqK fun K hK => CW.region ?_
    simp (maxDischargeDepth := 16) [symX, List.length_set, ha, Exp.len, Exp.tk, Exp.put]
    refine hK _ _ ?_; clear hK K
    have hcl := l[i].cr_le
    generalize hx : l[i] = x at ha hgw htk hcl
    refine CW.seqK fun K hK => ?_
    have key : ∀ (n2 : Int) (fr : List (Nat × AV)) (tm : List AV), n2 = n + (ownN x.kd : Int) → sub [(3, intV n2), (5, .ptr (σ.length + g.length) 0), (12, .sl (expR l) .no), (13, intV l.length), (14, intV i)] fr → K (fm 59 fr tm) (σ ++ (g ++ [.cells x.cs 34])) := by
      intro n2 fr tm e hfr
      rw [fm_sub hfr]
      refine hK _ _ ?_; clear hK K
      obtain ⟨k, nm, ty, rh, ⟨amk, amnm, amng, amdg, amtr⟩, ar, bd⟩ := x
      have hrl := rhsCt_le rh
      have hal := armCt_le ar
      have hbl := expCr_le bd
      have hrw := rhsW_len rh
      have haw := armW_len ar
      simp only [Exp.cr, Exp.kd, Exp.w] at htk hgw hcl e
      have how := ownN_le k
      simp only [Exp.cs]
      refine CW.seqK fun K hK => ?_
      have key2 : ∀ (n3 : Int) (g2 : List AObj) (fr : List (Nat × AV)) (tm : List AV), n3 = n2 + (rhsCt rh : Int) → sub [(3, intV n3), (5, .ptr (σ.length + g.length) 0), (12, .sl (expR l) .no), (13, intV l.length), (14, intV i)] fr → K (fm 59 fr tm) (σ ++ (g ++ (.cells [.lit (.int .u8 k), .lit (.string nm), .sl (tyR ty) .no, .sl (rhsR rh) .no, .lit (.int .u8 amk), .lit (.string amnm), .lit (.bool amng), .sl (limR amdg) .no, .lit (.bool amtr), .sl (armR ar) .no, .sl (expR bd) .no] 34 :: g2))) := by
        intro n3 g2 fr tm e3 hfr
        rw [fm_sub hfr]
        refine hK _ _ ?_; clear hK K
        refine CW.seqK fun K hK => ?_
        have key3 : ∀ (n4 : Int) (g3 : List AObj) (fr : List (Nat × AV)) (tm : List AV), n4 = n3 + (armCt ar : Int) → sub [(3, intV n4), (5, .ptr (σ.length + g.length) 0), (12, .sl (expR l) .no), (13, intV l.length), (14, intV i)] fr → K (fm 59 fr tm) (σ ++ (g ++ (.cells [.lit (.int .u8 k), .lit (.string nm), .sl (tyR ty) .no, .sl (rhsR rh) .no, .lit (.int .u8 amk), .lit (.string amnm), .lit (.bool amng), .sl (limR amdg) .no, .lit (.bool amtr), .sl (armR ar) .no, .sl (expR bd) .no] 34 :: g3))) := by
          intro n4 g3 fr tm e4 hfr
          rw [fm_sub hfr]
          refine hK _ _ ?_; clear hK K
          have hw : IntKind.i64.wrap (n4 + (cntN bd : Int)) = n4 + (cntN bd : Int) := IntWalk.i64_in _ (by unfold cntN; omega)
          refine CW.region ?_
          simp (maxDischargeDepth := 16) [symX, List.length_set]
          refine call_sm bd h2 exps1_inj (by simp only [nrmR, AV.nrm, expR_nrm]) (by omega) (by omega) fun _ => ?_
          simp (maxDischargeDepth := 16) [symX, List.length_set, hw]
          exact fin (n4 + (cntN bd : Int)) _ _ _ (by rw [htk]; unfold cntN; omega) (by simp [sub, lk])
        refine CW.seqK fun K hK => CW.region ?_
        simp (maxDischargeDepth := 16) [symX, List.length_set]
        refine hK _ _ ?_; clear hK K
        refine CW.block (CW.hide fun RI hRI => ?_)
        refine CW.loopF (fun p : Nat × Int × List AObj => [(3, intV p.2.1), (5, .ptr (σ.length + g.length) 0), (12, .sl (expR l) .no), (13, intV l.length), (14, intV i), (40, .sl (armR ar) .no), (41, intV ar.length), (42, intV p.1)]) (fun p => σ ++ (g ++ (.cells [.lit (.int .u8 k), .lit (.string nm), .sl (tyR ty) .no, .sl (rhsR rh) .no, .lit (.int .u8 amk), .lit (.string amnm), .lit (.bool amng), .sl (limR amdg) .no, .lit (.bool amtr), .sl (armR ar) .no, .sl (expR bd) .no] 34 :: p.2.2))) (fun p => p.1 ≤ ar.length ∧ p.2.1 = n3 + (armCt (ar.take p.1) : Int)) (fun p => ar.length - p.1) (0, n3, g2) (by simp [sub, lk]) rfl ⟨by simp, by simp [armCt]⟩ ?_
        rintro ⟨q, u, g4⟩ tm ⟨hq, hu⟩
        dsimp only at hq hu ⊢
        refine CW.hide fun R2I hR2I => CW.seqK fun K4I hK4I => CW.region ?_
        rcases Nat.lt_or_ge q ar.length with hltI | hgeI
        · simp (maxDischargeDepth := 16) [symX, List.length_set, hltI]
          refine hK4I _ _ ?_
          refine CW.seqK fun K3I hK3I => ?_
          refine CW.cond (t := true) (by simp [evx_tmp, symF, lk]) ?_
          refine CW.skip (hK3I _ _ ?_)
          refine CW.seqK fun K5I hK5I => CW.block ?_
          have haI := armR_get hltI
          have hgwI := armW_get hltI
          have htkI := armCt_take hltI
          have htlI := take_le_all armCt armCt_app ar (q + 1)
          generalize ar[q] = y at haI hgwI htkI
          obtain ⟨cn, ns, yb⟩ := y
          simp only [Arm.w] at hgwI
          simp only [Arm.ct] at htkI
          simp only [Arm.cs] at haI
          refine CW.seqK fun K hK => CW.region ?_
          simp (maxDischargeDepth := 16) [symX, List.length_set, haI]
          refine hK _ _ ?_; clear hK K
          have hw : IntKind.i64.wrap (u + (cntN yb : Int)) = u + (cntN yb : Int) := IntWalk.i64_in _ (by have := cntN_le yb; unfold cntN at *; omega)
          refine CW.region ?_
          simp (maxDischargeDepth := 16) [symX, List.length_set]
          refine call_sm yb h2 exps1_inj (by simp only [nrmR, AV.nrm, expR_nrm]) (by omega) (by omega) fun _ => ?_
          simp (maxDischargeDepth := 16) [symX, List.length_set, hw]
          refine hK5I _ _ ?_
          refine CW.region ?_
          simp (maxDischargeDepth := 16) [symX, List.length_set, wrap_succ (show q ≤ 1000000000000 by omega)]
          exact hR2I _ _ _ ⟨(q + 1, u + (cntN yb : Int), _), _, _, rfl, by simp [sub, lk], rfl, ⟨by show q + 1 ≤ _; omega, by show u + (cntN yb : Int) = n3 + (armCt (ar.take (q + 1)) : Int); rw [htkI]; unfold cntN; omega⟩, by show ar.length - (q + 1) < ar.length - q; omega⟩
        · simp (maxDischargeDepth := 16) [symX, List.length_set, Nat.not_lt.2 hgeI]
          refine hK4I _ _ ?_
          refine CW.seqK fun K3I hK3I => ?_
          refine CW.cond (t := false) (by simp [evx_tmp, symF, lk]) ?_
          refine CW.exit (hR2I _ _ _ (hRI _ _ _ ?_))
          simp only [outOf, if_true]
          rw [List.take_of_length_le hgeI] at hu
          exact key3 _ _ _ _ hu (by simp [sub, lk])
      refine CW.seqK fun K hK => CW.region ?_
      simp (maxDischargeDepth := 16) [symX, List.length_set]
      refine hK _ _ ?_; clear hK K
      refine CW.block (CW.hide fun RI hRI => ?_)
      refine CW.loopF (fun p : Nat × Int × List AObj => [(3, intV p.2.1), (5, .ptr (σ.length + g.length) 0), (12, .sl (expR l) .no), (13, intV l.length), (14, intV i), (23, .sl (rhsR rh) .no), (24, intV rh.length), (25, intV p.1)]) (fun p => σ ++ (g ++ (.cells [.lit (.int .u8 k), .lit (.string nm), .sl (tyR ty) .no, .sl (rhsR rh) .no, .lit (.int .u8 amk), .lit (.string amnm), .lit (.bool amng), .sl (limR amdg) .no, .lit (.bool amtr), .sl (armR ar) .no, .sl (expR bd) .no] 34 :: p.2.2))) (fun p => p.1 ≤ rh.length ∧ p.2.1 = n2 + (rhsCt (rh.take p.1) : Int)) (fun p => rh.length - p.1) (0, n2, []) (by simp [sub, lk]) rfl ⟨by simp, by simp [rhsCt]⟩ ?_
      rintro ⟨q, u, g4⟩ tm ⟨hq, hu⟩
      dsimp only at hq hu ⊢
      refine CW.hide fun R2I hR2I => CW.seqK fun K4I hK4I => CW.region ?_
      rcases Nat.lt_or_ge q rh.length with hltI | hgeI
      · simp (maxDischargeDepth := 16) [symX, List.length_set, hltI]
        refine hK4I _ _ ?_
        refine CW.seqK fun K3I hK3I => ?_
        refine CW.cond (t := true) (by simp [evx_tmp, symF, lk]) ?_
        refine CW.skip (hK3I _ _ ?_)
        refine CW.seqK fun K5I hK5I => CW.block ?_
        have haI := rhsR_get hltI
        have hgwI := rhsW_get hltI
        have htkI := rhsCt_take hltI
        have htlI := take_le_all rhsCt rhsCt_app rh (q + 1)
        generalize rh[q] = y at haI hgwI htkI
        obtain ⟨yk, ynm, yats, yps, yrs, yb, yts⟩ := y
        have hya := atmW_len yats
        simp only [Rhs.w] at hgwI
        simp only [Rhs.ct] at htkI
        simp only [Rhs.cs] at haI
        refine CW.seqK fun K hK => CW.region ?_
        simp (maxDischargeDepth := 16) [symX, List.length_set, haI]
        refine hK _ _ ?_; clear hK K
        have hw1 : IntKind.i64.wrap ((yats.length : Int) + (cntN yb : Int)) = (yats.length : Int) + (cntN yb : Int) := IntWalk.i64_in _ (by have := cntN_le yb; unfold cntN at *; omega)
        have hw : IntKind.i64.wrap (u + ((yats.length : Int) + (cntN yb : Int))) = u + ((yats.length : Int) + (cntN yb : Int)) := IntWalk.i64_in _ (by have := cntN_le yb; unfold cntN at *; omega)
        refine CW.draw (by kernel_rfl) ?_
        simp (maxDischargeDepth := 16) [symX, List.length_set]
        refine call_sm yb h2 exps1_inj (by simp only [nrmR, AV.nrm, expR_nrm]) (by omega) (by omega) fun hac => ?_
        simp (maxDischargeDepth := 16) [symX, List.length_set, hac, hw1, hw]
        refine ⟨by kernel_rfl, hK5I _ _ ?_⟩
        refine CW.region ?_
        simp (maxDischargeDepth := 16) [symX, List.length_set, wrap_succ (show q ≤ 1000000000000 by omega)]
        exact hR2I _ _ _ ⟨(q + 1, u + ((yats.length : Int) + (cntN yb : Int)), _), _, _, rfl, by simp [sub, lk], rfl, ⟨by show q + 1 ≤ _; omega, by show u + ((yats.length : Int) + (cntN yb : Int)) = n2 + (rhsCt (rh.take (q + 1)) : Int); rw [htkI]; unfold cntN; omega⟩, by show rh.length - (q + 1) < rh.length - q; omega⟩
      · simp (maxDischargeDepth := 16) [symX, List.length_set, Nat.not_lt.2 hgeI]
        refine hK4I _ _ ?_
        refine CW.seqK fun K3I hK3I => ?_
        refine CW.cond (t := false) (by simp [evx_tmp, symF, lk]) ?_
        refine CW.exit (hR2I _ _ _ (hRI _ _ _ ?_))
        simp only [outOf, if_true]
        rw [List.take_of_length_le hgeI] at hu
        exact key2 _ _ _ _ hu (by simp [sub, lk])
    refine CW.seqK fun K hK => CW.region ?_
    simp (maxDischargeDepth := 16) [symX, List.length_set, Exp.len, Exp.tk]
    refine call_sm x h1 exp1_inj (by simp only [nrmR, AV.nrm, Exp.nrm]) trivial (by omega) fun _ => ?_
    simp (maxDischargeDepth := 16) [symX, List.length_set]
    refine hK _ _ ?_; clear hK K
    cases ho : ownK x.kd with
    | true =>
      refine CW.cond (t := true) (by simp [evx_tmp, symF, lk]) ?_
      have hw : IntKind.i64.wrap (n + 1) = n + 1 := IntWalk.i64_in _ (by omega)
      refine CW.region ?_
      simp (maxDischargeDepth := 16) [symX, List.length_set, hw]
      exact key (n + 1) _ _ (by simp [ownN, ho]) (by simp [sub, lk])
    | false =>
      refine CW.cond (t := false) (by simp [evx_tmp, symF, lk]) ?_
      exact CW.skip (key n _ _ (by simp [ownN, ho]) (by simp [sub, lk]))
  · simp (maxDischargeDepth := 16) [symX, List.length_set, Nat.not_lt.2 hge]
    refine hK4 _ _ ?_
    refine CW.seqK fun K3 hK3 => ?_
    refine CW.cond (t := false) (by simp [evx_tmp, symF, lk]) ?_
    refine CW.exit (hR2 _ _ _ (hR _ _ _ ?_))
    simp only [outOf, if_true]
    refine hK _ _ ?_
    refine CW.seqK fun K hK => CW.region ?_
    simp (maxDischargeDepth := 16) [symX, List.length_set]
    refine hK _ _ ?_; clear hK K
    rw [List.take_of_length_le hge] at hn
    exact CW.ret (hR0 _ _ _ ⟨intV n, by simp [resultsA, omap, res_tmp, symF, lk], by rw [hn]; exact done rfl rfl⟩)
end Go.Proofs.YtncoidmbmihliaaGreatDoor
