/-
 EV: the package tree: own, Count.
-/
import Derived.Test.YteajcnilihgheaaGreatDoorStrsM
namespace Go.Proofs.YteajcnilihgheaaGreatDoor
set_option maxRecDepth 100000
set_option maxHeartbeats 8000000
set_option linter.unusedSimpArgs false
set_option linter.unusedVariables false
section
open Go.RowKit
variable {S : Sp} {N : Nat}
def ownK (k : Int) : Bool := decide (k = 2) || decide (k = 3) || decide (k = 4)
def Exp.kd : Exp → Int
 | .mk k _ _ _ _ _ _ => k
abbrev ownF : FS := smF (fun e : Exp => [.agg e.cs]) (fun e => .lit (.bool (ownK e.kd))) (fun _ => True) (fun _ => 0) 0
theorem exp1_inj (a b : Exp) (e : [AV.agg a.cs] = [.agg b.cs]) : a = b := by simp only [List.cons.injEq, and_true, AV.agg.injEq] at e; exact Exp.inj e
theorem own_w (hc : S.code = codeP Tryz.prog) (hm : S.ms 37 = []) : SmOk Tryz.prog S N 37 (fun e : Exp => [.agg e.cs]) (fun e => .lit (.bool (ownK e.kd))) (fun _ => True) (fun _ => 0) 0 := by
 intro e σ _ hN
 refine JC.startF (fn := Tryz.f37) (codeOf hc Tryz.func37 rfl (by kernel_rfl)) rfl hm rfl (zL rfl) fun tm => ?_
 refine CW.hide fun R0 hR0 => ?_
 obtain ⟨k, nm, ty, rh, ⟨amk, amnm, amng, amdg, amtr⟩, ar, bd⟩ := e
 simp only [Exp.cs, Exp.kd]
 refine CW.seqK fun K hK => CW.region ?_
 simp (maxDischargeDepth := 16) [zY]
 refine hK _ _ ?_; clear hK K
 refine CW.seqK fun K hK => CW.region ?_
 rcases Classical.em (k = 2) with h | h
 · simp (maxDischargeDepth := 16) [zY, h]
   exact hK _ _ (CW.ret (hR0 _ _ _ ⟨.lit (.bool true), by simp [zA, omap, zB, zF, lk], by simp [ownK, Exp.kd, h]; exact done rfl rfl⟩))
 rcases Classical.em (k = 3) with h2 | h2
 · simp (maxDischargeDepth := 16) [zY, h, h2]
   exact hK _ _ (CW.ret (hR0 _ _ _ ⟨.lit (.bool true), by simp [zA, omap, zB, zF, lk], by simp [ownK, Exp.kd, h2]; exact done rfl rfl⟩))
 rcases Classical.em (k = 4) with h3 | h3
 · simp (maxDischargeDepth := 16) [zY, h, h2, h3]
   exact hK _ _ (CW.ret (hR0 _ _ _ ⟨.lit (.bool true), by simp [zA, omap, zB, zF, lk], by simp [ownK, Exp.kd, h3]; exact done rfl rfl⟩))
 simp (maxDischargeDepth := 16) [zY, h, h2, h3]
 exact hK _ _ (CW.ret (hR0 _ _ _ ⟨.lit (.bool false), by simp [zA, omap, zB, zF, lk, h3], by simp [ownK, Exp.kd, h, h2, h3]; exact done rfl rfl⟩))
def ownN (k : Int) : Nat := if ownK k then 1 else 0
theorem ownN_le (k : Int) : ownN k ≤ 1 := by unfold ownN; split <;> simp
mutual
def Exp.cr : Exp → Nat
 | .mk k nm ty rh am ar bd => ownN k + rhsCt rh + armCt ar + (bd.length + expCr bd)
def expCr : List Exp → Nat
 | [] => 0
 | x :: l => x.cr + expCr l
def Rhs.ct : Rhs → Nat
 | .mk k nm ats ps rs bd ts => ats.length + (bd.length + expCr bd)
def rhsCt : List Rhs → Nat
 | [] => 0
 | x :: l => x.ct + rhsCt l
def Arm.ct : Arm → Nat
 | .mk cn ns bd => bd.length + expCr bd
def armCt : List Arm → Nat
 | [] => 0
 | x :: l => x.ct + armCt l
end
def cntN (l : List Exp) : Nat := l.length + expCr l
mutual
theorem Exp.cr_le : ∀ e : Exp, e.cr + 1 ≤ e.w
 | .mk k nm ty rh am ar bd => by
  have h1 := am.w_pos
  have h2 := rhsCt_le rh
  have h3 := armCt_le ar
  have h4 := expCr_le bd
  have h5 := ownN_le k
  simp only [Exp.cr, Exp.w]
  omega
theorem expCr_le : ∀ l : List Exp, l.length + expCr l ≤ expW l
 | [] => by simp [expCr, expW]
 | x :: l => by have := x.cr_le; have := expCr_le l; simp only [expCr, expW, List.length_cons]; omega
theorem Rhs.ct_le : ∀ e : Rhs, e.ct ≤ e.w
 | .mk k nm ats ps rs bd ts => by have := atmW_len ats; have := expCr_le bd; simp only [Rhs.ct, Rhs.w]; omega
theorem rhsCt_le : ∀ l : List Rhs, rhsCt l ≤ rhsW l
 | [] => by simp [rhsCt, rhsW]
 | x :: l => by have := x.ct_le; have := rhsCt_le l; simp only [rhsCt, rhsW]; omega
theorem Arm.ct_le : ∀ e : Arm, e.ct ≤ e.w
 | .mk cn ns bd => by have := expCr_le bd; simp only [Arm.ct, Arm.w]; omega
theorem armCt_le : ∀ l : List Arm, armCt l ≤ armW l
 | [] => by simp [armCt, armW]
 | x :: l => by have := x.ct_le; have := armCt_le l; simp only [armCt, armW]; omega
end
theorem cntN_le (l : List Exp) : cntN l ≤ expW l := expCr_le l
theorem expCr_take {l : List Exp} {i : Nat} (h : i < l.length) : expCr (l.take (i + 1)) = expCr (l.take i) + l[i].cr := by
 induction l generalizing i with
 | nil => simp at h
 | cons x l ih =>
  cases i with
  | zero => simp [expCr]
  | succ i => have := ih (i := i) (by simpa using h); simp only [List.take_succ_cons, expCr, List.getElem_cons_succ, this]; omega
theorem rhsCt_take {l : List Rhs} {i : Nat} (h : i < l.length) : rhsCt (l.take (i + 1)) = rhsCt (l.take i) + l[i].ct := by
 induction l generalizing i with
 | nil => simp at h
 | cons x l ih =>
  cases i with
  | zero => simp [rhsCt]
  | succ i => have := ih (i := i) (by simpa using h); simp only [List.take_succ_cons, rhsCt, List.getElem_cons_succ, this]; omega
theorem armCt_take {l : List Arm} {i : Nat} (h : i < l.length) : armCt (l.take (i + 1)) = armCt (l.take i) + l[i].ct := by
 induction l generalizing i with
 | nil => simp at h
 | cons x l ih =>
  cases i with
  | zero => simp [armCt]
  | succ i => have := ih (i := i) (by simpa using h); simp only [List.take_succ_cons, armCt, List.getElem_cons_succ, this]; omega
theorem take_le_all {α : Type} (f : List α → Nat) (hf : ∀ a b, f (a ++ b) = f a + f b) (l : List α) (i : Nat) : f (l.take i) ≤ f l := by
 have := hf (l.take i) (l.drop i)
 rw [List.take_append_drop] at this
 omega
theorem expCr_app : ∀ a b : List Exp, expCr (a ++ b) = expCr a + expCr b
 | [], b => by simp [expCr]
 | x :: a, b => by rw [List.cons_append, expCr, expCr, expCr_app a b]; omega
theorem rhsCt_app : ∀ a b : List Rhs, rhsCt (a ++ b) = rhsCt a + rhsCt b
 | [], b => by simp [rhsCt]
 | x :: a, b => by rw [List.cons_append, rhsCt, rhsCt, rhsCt_app a b]; omega
theorem armCt_app : ∀ a b : List Arm, armCt (a ++ b) = armCt a + armCt b
 | [], b => by simp [armCt]
 | x :: a, b => by rw [List.cons_append, armCt, armCt, armCt_app a b]; omega
abbrev countF : FS := smF (fun l : List Exp => [.sl (expR l) .no]) (fun l => intV (cntN l : Nat)) (fun l => expW l ≤ 1000000000000) expW 5
theorem exps1_inj (a b : List Exp) (e : [AV.sl (expR a) .no] = [.sl (expR b) .no]) : a = b := by simp only [List.cons.injEq, and_true, AV.sl.injEq] at e; exact expR_inj e
theorem Count_w (hc : S.code = codeP Tryz.prog) (hm : S.ms 18 = []) (h1 : S.sp 37 = some ownF) (h2 : S.sp 18 = some countF) : SmOk Tryz.prog S N 18 (fun l : List Exp => [.sl (expR l) .no]) (fun l => intV (cntN l : Nat)) (fun l => expW l ≤ 1000000000000) expW 5 := by
 intro l σ hl hN
 refine JC.startF (fn := Tryz.f18) (codeOf hc Tryz.func18 rfl (by kernel_rfl)) rfl hm rfl (zL rfl) fun tm => ?_
 refine CW.hide fun R0 hR0 => ?_
 have hcn := cntN_le l
 have hll := expW_len l
 unfold cntN at hcn
 refine CW.seqK fun K hK => CW.region ?_
 simp (maxDischargeDepth := 16) [zY]
 refine hK _ _ ?_; clear hK K
 refine CW.seqK fun K hK => CW.region ?_
 simp (maxDischargeDepth := 16) [zY]
 refine hK _ _ ?_; clear hK K
 refine CW.seqK fun K hK => ?_
 refine CW.seqK fun K hK => CW.region ?_
 simp (maxDischargeDepth := 16) [zY]
 refine hK _ _ ?_; clear hK K
 refine CW.block (CW.hide fun R hR => ?_)
 refine CW.loopF (fun p : Nat × Int × List AObj => [(3, intV p.2.1), (12, .sl (expR l) .no), (13, intV l.length), (14, intV p.1)]) (fun p => σ ++ p.2.2) (fun p => p.1 ≤ l.length ∧ p.2.1 = ((l.length + expCr (l.take p.1) : Nat) : Int)) (fun p => l.length - p.1) (0, (l.length : Int), []) (by simp [sub, lk]) (by simp) ⟨by simp, by simp [expCr]⟩ ?_
 rintro ⟨i, n, g⟩ tm ⟨hi, hn⟩
 dsimp only at hi hn ⊢
 refine CW.hide fun R2 hR2 => CW.seqK fun K4 hK4 => CW.region ?_
 rcases Nat.lt_or_ge i l.length with hlt | hge
 · simp (maxDischargeDepth := 16) [zY, hlt]
   refine hK4 _ _ ?_
   refine CW.seqK fun K3 hK3 => ?_
   refine CW.cond (t := true) (by simp [zT, zF, lk]) ?_
   refine CW.skip (hK3 _ _ ?_)
   refine CW.seqK fun K5 hK5 => CW.block ?_
   have ha := expR_get hlt
   have hgw := expW_get hlt
   have htk := expCr_take hlt
   have htl := take_le_all expCr expCr_app l (i + 1)
   have fin : ∀ (n2 : Int) (g2 : List AObj) (fr : List (Nat × AV)) (tm : List AV), n2 = ((l.length + expCr (l.take (i + 1)) : Nat) : Int) → sub [(3, intV n2), (12, .sl (expR l) .no), (13, intV l.length), (14, intV i)] fr → K5 (fm 59 fr tm) (σ ++ g2) := by
    intro n2 g2 fr tm e hfr
    rw [fm_sub hfr]
    refine hK5 _ _ ?_
    refine CW.region ?_
    simp (maxDischargeDepth := 16) [zY, wrap_succ (show i ≤ 1000000000000 by omega)]
    exact hR2 _ _ _ ⟨(i + 1, n2, g2), _, _, rfl, by simp [sub, lk], rfl, ⟨by show i + 1 ≤ _; omega, e⟩, by show l.length - (i + 1) < l.length - i; omega⟩
   refine CW.seqK fun K hK => CW.region ?_
   simp (maxDischargeDepth := 16) [zY, ha, Exp.len, Exp.tk, Exp.put]
   refine hK _ _ ?_; clear hK K
   have hcl := l[i].cr_le
   generalize hx : l[i] = x at ha hgw htk hcl
   refine CW.seqK fun K hK => ?_
   have key : ∀ (n2 : Int) (fr : List (Nat × AV)) (tm : List AV), n2 = n + (ownN x.kd : Int) → sub [(3, intV n2), (5, .ptr (σ.length + g.length) 0), (12, .sl (expR l) .no), (13, intV l.length), (14, intV i)] fr → K (fm 59 fr tm) (σ ++ (g ++ [.cells x.cs 49])) := by
    intro n2 fr tm e hfr
    rw [fm_sub hfr]
    refine hK _ _ ?_; clear hK K
    obtain ⟨k, nm, ty, rh, ⟨amk, amnm, amng, amdg, amtr⟩, ar, bd⟩ := x
    have hrl := rhsCt_le rh
    have hal := armCt_le ar
    have hbl := expCr_le bd
    have hrw := rhsW_len rh
    have haw := armW_len ar
    simp only [Exp.cr, Exp.kd, Exp.w] at htk hgw hcl e
    have how := ownN_le k
    simp only [Exp.cs]
    refine CW.seqK fun K hK => ?_
    have key2 : ∀ (n3 : Int) (g2 : List AObj) (fr : List (Nat × AV)) (tm : List AV), n3 = n2 + (rhsCt rh : Int) → sub [(3, intV n3), (5, .ptr (σ.length + g.length) 0), (12, .sl (expR l) .no), (13, intV l.length), (14, intV i)] fr → K (fm 59 fr tm) (σ ++ (g ++ (.cells [.lit (.int .u8 k), .lit (.string nm), .sl (tyR ty) .no, .sl (rhsR rh) .no, .lit (.int .u8 amk), .lit (.string amnm), .lit (.bool amng), .sl (limR amdg) .no, .lit (.bool amtr), .sl (armR ar) .no, .sl (expR bd) .no] 49 :: g2))) := by
     intro n3 g2 fr tm e3 hfr
     rw [fm_sub hfr]
     refine hK _ _ ?_; clear hK K
     refine CW.seqK fun K hK => ?_
     have key3 : ∀ (n4 : Int) (g3 : List AObj) (fr : List (Nat × AV)) (tm : List AV), n4 = n3 + (armCt ar : Int) → sub [(3, intV n4), (5, .ptr (σ.length + g.length) 0), (12, .sl (expR l) .no), (13, intV l.length), (14, intV i)] fr → K (fm 59 fr tm) (σ ++ (g ++ (.cells [.lit (.int .u8 k), .lit (.string nm), .sl (tyR ty) .no, .sl (rhsR rh) .no, .lit (.int .u8 amk), .lit (.string amnm), .lit (.bool amng), .sl (limR amdg) .no, .lit (.bool amtr), .sl (armR ar) .no, .sl (expR bd) .no] 49 :: g3))) := by
      intro n4 g3 fr tm e4 hfr
      rw [fm_sub hfr]
      refine hK _ _ ?_; clear hK K
      have hw : IntKind.i64.wrap (n4 + (cntN bd : Int)) = n4 + (cntN bd : Int) := IntWalk.i64_in _ (by unfold cntN; omega)
      refine CW.region ?_
      simp (maxDischargeDepth := 16) [zY]
      refine call_sm bd h2 exps1_inj (by simp only [nrmR, AV.nrm, expR_nrm]) (by omega) (by omega) fun _ => ?_
      simp (maxDischargeDepth := 16) [zY, hw]
      exact fin (n4 + (cntN bd : Int)) _ _ _ (by rw [htk]; unfold cntN; omega) (by simp [sub, lk])
     refine CW.seqK fun K hK => CW.region ?_
     simp (maxDischargeDepth := 16) [zY]
     refine hK _ _ ?_; clear hK K
     refine CW.block (CW.hide fun RI hRI => ?_)
     refine CW.loopF (fun p : Nat × Int × List AObj => [(3, intV p.2.1), (5, .ptr (σ.length + g.length) 0), (12, .sl (expR l) .no), (13, intV l.length), (14, intV i), (40, .sl (armR ar) .no), (41, intV ar.length), (42, intV p.1)]) (fun p => σ ++ (g ++ (.cells [.lit (.int .u8 k), .lit (.string nm), .sl (tyR ty) .no, .sl (rhsR rh) .no, .lit (.int .u8 amk), .lit (.string amnm), .lit (.bool amng), .sl (limR amdg) .no, .lit (.bool amtr), .sl (armR ar) .no, .sl (expR bd) .no] 49 :: p.2.2))) (fun p => p.1 ≤ ar.length ∧ p.2.1 = n3 + (armCt (ar.take p.1) : Int)) (fun p => ar.length - p.1) (0, n3, g2) (by simp [sub, lk]) rfl ⟨by simp, by simp [armCt]⟩ ?_
     rintro ⟨q, u, g4⟩ tm ⟨hq, hu⟩
     dsimp only at hq hu ⊢
     refine CW.hide fun R2I hR2I => CW.seqK fun K4I hK4I => CW.region ?_
     rcases Nat.lt_or_ge q ar.length with hltI | hgeI
     · simp (maxDischargeDepth := 16) [zY, hltI]
       refine hK4I _ _ ?_
       refine CW.seqK fun K3I hK3I => ?_
       refine CW.cond (t := true) (by simp [zT, zF, lk]) ?_
       refine CW.skip (hK3I _ _ ?_)
       refine CW.seqK fun K5I hK5I => CW.block ?_
       have haI := armR_get hltI
       have hgwI := armW_get hltI
       have htkI := armCt_take hltI
       have htlI := take_le_all armCt armCt_app ar (q + 1)
       generalize ar[q] = y at haI hgwI htkI
       obtain ⟨cn, ns, yb⟩ := y
       simp only [Arm.w] at hgwI
       simp only [Arm.ct] at htkI
       simp only [Arm.cs] at haI
       refine CW.seqK fun K hK => CW.region ?_
       simp (maxDischargeDepth := 16) [zY, haI]
       refine hK _ _ ?_; clear hK K
       have hw : IntKind.i64.wrap (u + (cntN yb : Int)) = u + (cntN yb : Int) := IntWalk.i64_in _ (by have := cntN_le yb; unfold cntN at *; omega)
       refine CW.region ?_
       simp (maxDischargeDepth := 16) [zY]
       refine call_sm yb h2 exps1_inj (by simp only [nrmR, AV.nrm, expR_nrm]) (by omega) (by omega) fun _ => ?_
       simp (maxDischargeDepth := 16) [zY, hw]
       refine hK5I _ _ ?_
       refine CW.region ?_
       simp (maxDischargeDepth := 16) [zY, wrap_succ (show q ≤ 1000000000000 by omega)]
       exact hR2I _ _ _ ⟨(q + 1, u + (cntN yb : Int), _), _, _, rfl, by simp [sub, lk], rfl, ⟨by show q + 1 ≤ _; omega, by show u + (cntN yb : Int) = n3 + (armCt (ar.take (q + 1)) : Int); rw [htkI]; unfold cntN; omega⟩, by show ar.length - (q + 1) < ar.length - q; omega⟩
     · simp (maxDischargeDepth := 16) [zY, Nat.not_lt.2 hgeI]
       refine hK4I _ _ ?_
       refine CW.seqK fun K3I hK3I => ?_
       refine CW.cond (t := false) (by simp [zT, zF, lk]) ?_
       refine CW.exit (hR2I _ _ _ (hRI _ _ _ ?_))
       simp only [outOf, if_true]
       rw [List.take_of_length_le hgeI] at hu
       exact key3 _ _ _ _ hu (by simp [sub, lk])
    refine CW.seqK fun K hK => CW.region ?_
    simp (maxDischargeDepth := 16) [zY]
    refine hK _ _ ?_; clear hK K
    refine CW.block (CW.hide fun RI hRI => ?_)
    refine CW.loopF (fun p : Nat × Int × List AObj => [(3, intV p.2.1), (5, .ptr (σ.length + g.length) 0), (12, .sl (expR l) .no), (13, intV l.length), (14, intV i), (23, .sl (rhsR rh) .no), (24, intV rh.length), (25, intV p.1)]) (fun p => σ ++ (g ++ (.cells [.lit (.int .u8 k), .lit (.string nm), .sl (tyR ty) .no, .sl (rhsR rh) .no, .lit (.int .u8 amk), .lit (.string amnm), .lit (.bool amng), .sl (limR amdg) .no, .lit (.bool amtr), .sl (armR ar) .no, .sl (expR bd) .no] 49 :: p.2.2))) (fun p => p.1 ≤ rh.length ∧ p.2.1 = n2 + (rhsCt (rh.take p.1) : Int)) (fun p => rh.length - p.1) (0, n2, []) (by simp [sub, lk]) rfl ⟨by simp, by simp [rhsCt]⟩ ?_
    rintro ⟨q, u, g4⟩ tm ⟨hq, hu⟩
    dsimp only at hq hu ⊢
    refine CW.hide fun R2I hR2I => CW.seqK fun K4I hK4I => CW.region ?_
    rcases Nat.lt_or_ge q rh.length with hltI | hgeI
    · simp (maxDischargeDepth := 16) [zY, hltI]
      refine hK4I _ _ ?_
      refine CW.seqK fun K3I hK3I => ?_
      refine CW.cond (t := true) (by simp [zT, zF, lk]) ?_
      refine CW.skip (hK3I _ _ ?_)
      refine CW.seqK fun K5I hK5I => CW.block ?_
      have haI := rhsR_get hltI
      have hgwI := rhsW_get hltI
      have htkI := rhsCt_take hltI
      have htlI := take_le_all rhsCt rhsCt_app rh (q + 1)
      generalize rh[q] = y at haI hgwI htkI
      obtain ⟨yk, ynm, yats, yps, yrs, yb, yts⟩ := y
      have hya := atmW_len yats
      simp only [Rhs.w] at hgwI
      simp only [Rhs.ct] at htkI
      simp only [Rhs.cs] at haI
      refine CW.seqK fun K hK => CW.region ?_
      simp (maxDischargeDepth := 16) [zY, haI]
      refine hK _ _ ?_; clear hK K
      have hw1 : IntKind.i64.wrap ((yats.length : Int) + (cntN yb : Int)) = (yats.length : Int) + (cntN yb : Int) := IntWalk.i64_in _ (by have := cntN_le yb; unfold cntN at *; omega)
      have hw : IntKind.i64.wrap (u + ((yats.length : Int) + (cntN yb : Int))) = u + ((yats.length : Int) + (cntN yb : Int)) := IntWalk.i64_in _ (by have := cntN_le yb; unfold cntN at *; omega)
      refine CW.draw (by kernel_rfl) ?_
      simp (maxDischargeDepth := 16) [zY]
      refine call_sm yb h2 exps1_inj (by simp only [nrmR, AV.nrm, expR_nrm]) (by omega) (by omega) fun hac => ?_
      simp (maxDischargeDepth := 16) [zY, hac, hw1, hw]
      refine ⟨by kernel_rfl, hK5I _ _ ?_⟩
      refine CW.region ?_
      simp (maxDischargeDepth := 16) [zY, wrap_succ (show q ≤ 1000000000000 by omega)]
      exact hR2I _ _ _ ⟨(q + 1, u + ((yats.length : Int) + (cntN yb : Int)), _), _, _, rfl, by simp [sub, lk], rfl, ⟨by show q + 1 ≤ _; omega, by show u + ((yats.length : Int) + (cntN yb : Int)) = n2 + (rhsCt (rh.take (q + 1)) : Int); rw [htkI]; unfold cntN; omega⟩, by show rh.length - (q + 1) < rh.length - q; omega⟩
    · simp (maxDischargeDepth := 16) [zY, Nat.not_lt.2 hgeI]
      refine hK4I _ _ ?_
      refine CW.seqK fun K3I hK3I => ?_
      refine CW.cond (t := false) (by simp [zT, zF, lk]) ?_
      refine CW.exit (hR2I _ _ _ (hRI _ _ _ ?_))
      simp only [outOf, if_true]
      rw [List.take_of_length_le hgeI] at hu
      exact key2 _ _ _ _ hu (by simp [sub, lk])
   refine CW.seqK fun K hK => CW.region ?_
   simp (maxDischargeDepth := 16) [zY, Exp.len, Exp.tk]
   refine call_sm x h1 exp1_inj (by simp only [nrmR, AV.nrm, Exp.nrm]) trivial (by omega) fun _ => ?_
   simp (maxDischargeDepth := 16) [zY]
   refine hK _ _ ?_; clear hK K
   cases ho : ownK x.kd with
   | true =>
    refine CW.cond (t := true) (by simp [zT, zF, lk]) ?_
    have hw : IntKind.i64.wrap (n + 1) = n + 1 := IntWalk.i64_in _ (by omega)
    refine CW.region ?_
    simp (maxDischargeDepth := 16) [zY, hw]
    exact key (n + 1) _ _ (by simp [ownN, ho]) (by simp [sub, lk])
   | false =>
    refine CW.cond (t := false) (by simp [zT, zF, lk]) ?_
    exact CW.skip (key n _ _ (by simp [ownN, ho]) (by simp [sub, lk]))
 · simp (maxDischargeDepth := 16) [zY, Nat.not_lt.2 hge]
   refine hK4 _ _ ?_
   refine CW.seqK fun K3 hK3 => ?_
   refine CW.cond (t := false) (by simp [zT, zF, lk]) ?_
   refine CW.exit (hR2 _ _ _ (hR _ _ _ ?_))
   simp only [outOf, if_true]
   refine hK _ _ ?_
   refine CW.seqK fun K hK => CW.region ?_
   simp (maxDischargeDepth := 16) [zY]
   refine hK _ _ ?_; clear hK K
   rw [List.take_of_length_le hge] at hn
   exact CW.ret (hR0 _ _ _ ⟨intV n, by simp [zA, omap, zB, zF, lk], by rw [hn]; exact done rfl rfl⟩)
end
section
open Go.RowKit
variable {S : Sp} {N : Nat}
def strK (es : List (Value × AV)) : Prop := ∀ p ∈ es, ∃ s, p.1 = .string s
theorem keyEq_str {a b : ByteArray} : keyEq (.string a) (.string b) = decide (a = b) := by
 show (a.data.toList == b.data.toList) = _
 by_cases h : a = b
 · subst h; simp
 · rw [decide_eq_false h]
   exact beq_eq_false_iff_ne.2 fun e => h (by cases a; cases b; simpa using e)
theorem strK.put {es : List (Value × AV)} (h : strK es) (k : ByteArray) (v : AV) : strK (mapPut (.string k) v es) := by
 induction es with
 | nil => intro p hp; simp only [mapPut, List.mem_singleton] at hp; subst hp; exact ⟨k, rfl⟩
 | cons q l ih =>
  obtain ⟨q1, q2⟩ := q
  rw [mapPut]
  split
  · intro p hp
    rcases List.mem_cons.1 hp with rfl | hp
    · exact ⟨k, rfl⟩
    · exact h p (List.mem_cons_of_mem _ hp)
  · intro p hp
    rcases List.mem_cons.1 hp with rfl | hp
    · exact h _ List.mem_cons_self
    · exact ih (fun p hp => h p (List.mem_cons_of_mem _ hp)) p hp
theorem mapGet_put {es : List (Value × AV)} (h : strK es) (k s : ByteArray) (v : AV) : mapGet (.string s) (mapPut (.string k) v es) = if s = k then some v else mapGet (.string s) es := by
 induction es with
 | nil => simp only [mapPut, mapGet, keyEq_str]; by_cases e : s = k <;> simp [e, eq_comm]
 | cons q l ih =>
  obtain ⟨q1, q2⟩ := q
  obtain ⟨q, rfl⟩ := h _ List.mem_cons_self
  have ih := ih fun p hp => h p (List.mem_cons_of_mem _ hp)
  rw [mapPut, keyEq_str]
  by_cases e : k = q
  · subst e
    simp only [decide_true, if_true, mapGet, keyEq_str]
    by_cases e2 : s = k
    · subst e2; simp
    · simp [e2]
  · simp only [e, decide_false, Bool.false_eq_true, if_false, mapGet, keyEq_str, ih]
    by_cases e2 : s = q
    · subst e2
      have : ¬ s = k := fun h => e h.symm
      simp [this]
    · simp [e2]
theorem put_keys {es : List (Value × AV)} (h : strK es) (k : ByteArray) (v : AV) : ∀ p ∈ mapPut (.string k) v es, p = (.string k, v) ∨ p ∈ es := by
 induction es with
 | nil => intro p hp; simp only [mapPut, List.mem_singleton] at hp; exact .inl hp
 | cons q l ih =>
  obtain ⟨q1, q2⟩ := q
  rw [mapPut]
  split
  · rename_i e
    intro p hp
    rcases List.mem_cons.1 hp with rfl | hp
    · exact .inl rfl
    · exact .inr (List.mem_cons_of_mem _ hp)
  · intro p hp
    rcases List.mem_cons.1 hp with rfl | hp
    · exact .inr List.mem_cons_self
    · rcases ih (fun p hp => h p (List.mem_cons_of_mem _ hp)) p hp with h | h
      · exact .inl h
      · exact .inr (List.mem_cons_of_mem _ h)
def keysB : List (Value × AV) → List ByteArray
 | [] => []
 | (.string s, _) :: l => s :: keysB l
 | _ :: l => keysB l
theorem keysB_cons {s : ByteArray} {v : AV} {l : List (Value × AV)} : keysB ((.string s, v) :: l) = s :: keysB l := rfl
theorem mem_keysB {es : List (Value × AV)} (h : strK es) (s : ByteArray) : (mapGet (.string s) es).isSome = true ↔ s ∈ keysB es := by
 induction es with
 | nil => simp [mapGet, keysB]
 | cons q l ih =>
  obtain ⟨q1, q2⟩ := q
  obtain ⟨q, rfl⟩ := h _ List.mem_cons_self
  have ih := ih fun p hp => h p (List.mem_cons_of_mem _ hp)
  rw [mapGet, keyEq_str, keysB_cons, List.mem_cons, ← ih]
  by_cases e : s = q
  · subst e; simp
  · simp [e]
theorem keysB_put {es : List (Value × AV)} (h : strK es) (k : ByteArray) (v : AV) : (k ∈ keysB es → keysB (mapPut (.string k) v es) = keysB es) ∧ (k ∉ keysB es → keysB (mapPut (.string k) v es) = keysB es ++ [k]) := by
 induction es with
 | nil => exact ⟨fun h => by simp [keysB] at h, fun _ => rfl⟩
 | cons q l ih =>
  obtain ⟨q1, q2⟩ := q
  obtain ⟨q, rfl⟩ := h _ List.mem_cons_self
  have ih := ih fun p hp => h p (List.mem_cons_of_mem _ hp)
  rw [mapPut, keyEq_str]
  by_cases e : k = q
  · subst e; exact ⟨fun _ => by simp [keysB], fun hn => absurd List.mem_cons_self hn⟩
  · simp only [e, decide_false, Bool.false_eq_true, if_false, keysB_cons, List.mem_cons, false_or]
    exact ⟨fun hm => by rw [ih.1 hm], fun hm => by rw [ih.2 hm]; rfl⟩
theorem nodup_put {es : List (Value × AV)} (h : strK es) (hn : (keysB es).Nodup) (k : ByteArray) (v : AV) : (keysB (mapPut (.string k) v es)).Nodup := by
 rcases Classical.em (k ∈ keysB es) with hk | hk
 · rw [(keysB_put h k v).1 hk]; exact hn
 · rw [(keysB_put h k v).2 hk, List.nodup_append]
   exact ⟨hn, by simp, fun a ha b hb => by simp only [List.mem_singleton] at hb; subst hb; intro e; subst e; exact hk ha⟩
structure LAt (X : Nat → Prop) (σ : Sto) (lid bid nid : Nat) (c : ByteArray → Int) (F : ByteArray → Prop) : Prop where
 l : σ[lid]? = some (.cells [.mp bid, .mp nid] 153)
 b : ∃ es, σ[bid]? = some (.map .str es) ∧ strK es ∧ ∀ s, (mapGet (.string s) es).getD (intV 0) = intV (c s)
 n : ∃ es, σ[nid]? = some (.map .str es) ∧ strK es ∧ (∀ p ∈ es, p.2 = .lit (.bool true)) ∧ (∀ s, (mapGet (.string s) es).isSome = true ↔ F s) ∧ (keysB es).Nodup
 hX : ∀ p, X p → p < σ.length ∧ p ≠ bid ∧ p ≠ nid
 xl : X lid
 ne : bid ≠ nid
theorem LAt.nb {X : Nat → Prop} {σ : Sto} {lid bid nid : Nat} {c : ByteArray → Int} {F : ByteArray → Prop} (h : LAt X σ lid bid nid c F) : bid ≠ nid ∧ lid ≠ bid ∧ lid ≠ nid ∧ lid < σ.length ∧ bid < σ.length ∧ nid < σ.length := by
 obtain ⟨es, h1, h2, h3⟩ := h.b
 obtain ⟨ns, g1, g2⟩ := h.n
 exact ⟨h.ne, (h.hX lid h.xl).2.1, (h.hX lid h.xl).2.2, (h.hX lid h.xl).1, (List.getElem?_eq_some_iff.1 h1).1, (List.getElem?_eq_some_iff.1 g1).1⟩
theorem LAt.app {X : Nat → Prop} {σ : Sto} {lid bid nid : Nat} {c : ByteArray → Int} {F : ByteArray → Prop} (h : LAt X σ lid bid nid c F) (l : Sto) : LAt X (σ ++ l) lid bid nid c F := by
 obtain ⟨es, h1, h2⟩ := h.b
 obtain ⟨ns, g1, g2⟩ := h.n
 exact ⟨(st_old (List.getElem?_eq_some_iff.1 h.l).1).trans h.l, ⟨es, (st_old (List.getElem?_eq_some_iff.1 h1).1).trans h1, h2⟩, ⟨ns, (st_old (List.getElem?_eq_some_iff.1 g1).1).trans g1, g2⟩, fun p hp => ⟨by have := (h.hX p hp).1; simp; omega, (h.hX p hp).2⟩, h.xl, h.ne⟩
theorem LAt.less {X Y : Nat → Prop} {σ : Sto} {lid bid nid : Nat} {c : ByteArray → Int} {F : ByteArray → Prop} (h : LAt Y σ lid bid nid c F) (hXY : ∀ p, X p → Y p) (hl : X lid) : LAt X σ lid bid nid c F := ⟨h.l, h.b, h.n, fun p hp => h.hX p (hXY p hp), hl, h.ne⟩
theorem LAt.more {X Y : Nat → Prop} {σ : Sto} {lid bid nid : Nat} {c : ByteArray → Int} {F : ByteArray → Prop} (h : LAt X σ lid bid nid c F) (hY : ∀ p, Y p → p < σ.length ∧ p ≠ bid ∧ p ≠ nid) (hl : Y lid) : LAt Y σ lid bid nid c F := ⟨h.l, h.b, h.n, hY, hl, h.ne⟩
theorem LAt.set {X : Nat → Prop} {σ : Sto} {lid bid nid : Nat} {c c' : ByteArray → Int} {F F' : ByteArray → Prop} (h : LAt X σ lid bid nid c F) (hc : ∀ s, c s = c' s) (hF : ∀ s, F s ↔ F' s) : LAt X σ lid bid nid c' F' := by
 obtain ⟨es, h1, h2, h3⟩ := h.b
 obtain ⟨ns, g1, g2, g3, g4, g5⟩ := h.n
 exact ⟨h.l, ⟨es, h1, h2, fun s => by rw [← hc s]; exact h3 s⟩, ⟨ns, g1, g2, g3, fun s => (g4 s).trans (hF s), g5⟩, h.hX, h.xl, h.ne⟩
def LPost (X : Nat → Prop) (σ : Sto) (lid bid nid : Nat) (c : ByteArray → Int) (F : ByteArray → Prop) (r : ARes) (σ' : Sto) : Prop := r = .ret (.tup []) ∧ LAt X σ' lid bid nid c F ∧ ExtX X σ σ'
structure LkH (S : Sp) : Prop where
 code : S.code = codeP Tryz.prog
 s1 : S.sp 126 = none
 b1 : S.base 126 = none
 m1 : S.ms 126 = []
 s2 : S.sp 100 = none
 b2 : S.base 100 = none
 m2 : S.ms 100 = []
 s3 : S.sp 105 = none
 b3 : S.base 105 = none
 m3 : S.ms 105 = []
 s4 : S.sp 102 = none
 b4 : S.base 102 = none
 m4 : S.ms 102 = []
 s5 : S.sp 101 = none
 b5 : S.base 101 = none
 m5 : S.ms 101 = []
 s6 : S.sp 103 = none
 b6 : S.base 103 = none
 m6 : S.ms 103 = []
 s7 : S.sp 68 = none
 b7 : S.base 68 = none
 m7 : S.ms 68 = []
 s8 : S.sp 127 = none
 b8 : S.base 127 = none
 m8 : S.ms 127 = []
 s9 : S.sp 129 = none
 b9 : S.base 129 = none
 m9 : S.ms 129 = []
 s10 : S.sp 104 = none
 b10 : S.base 104 = none
 m10 : S.ms 104 = []
 s11 : S.sp 106 = none
 b11 : S.base 106 = none
 m11 : S.ms 106 = []
 s12 : S.sp 107 = none
 b12 : S.base 107 = none
 m12 : S.ms 107 = []
 ow : S.sp 37 = some ownF
variable {X : Nat → Prop} {σ : Sto} {lid bid nid : Nat} {c : ByteArray → Int} {F : ByteArray → Prop}
theorem lput_ev (H : LkH S) (h : LAt X σ lid bid nid c F) (nm : ByteArray) :
    CallW Tryz.prog (S.E N) 126 [.ptr lid 0, .lit (.string nm)] σ (LPost X σ lid bid nid c fun s => F s ∨ (c s = 0 ∧ s = nm)) := by
 refine CallW.startF (fn := Tryz.f126) (prim_none H.s1 H.b1) (codeOf H.code Tryz.func126 rfl (by kernel_rfl)) rfl H.m1 rfl (zL rfl) fun tm => ?_
 refine CW.hide fun R0 hR0 => ?_
 have g0 := h.l
 obtain ⟨es, g1, g2, g3⟩ := h.b
 obtain ⟨ns, q1, q2, q3, q4, q5⟩ := h.n
 obtain ⟨_, _, _, l0, l1, l2⟩ := h.nb
 have g3 := g3 nm
 refine CW.seqK fun K hK => CW.region ?_
 simp (maxDischargeDepth := 16) [zY, g0, g1, g3, lookA]
 refine hK _ _ ?_; clear hK K
 rcases Classical.em (c nm = 0) with hc | hc
 · refine CW.cond (t := true) (by simp [zT, zF, lk, hc]) ?_
   refine CW.region ?_
   simp (maxDischargeDepth := 16) [zY, g0, q1]
   refine hR0 _ _ _ ⟨.tup [], by simp [zA, omap], rfl, ⟨by rw [List.getElem?_set_ne (Ne.symm (h.hX lid h.xl).2.2)]; exact g0, ⟨es, by rw [List.getElem?_set_ne (Ne.symm h.ne)]; exact g1, g2, ?_⟩, ⟨_, st_same l2, q2.put nm _, fun p hp => ?_, fun s => ?_, nodup_put q2 q5 nm _⟩, fun p hp => by simpa using h.hX p hp, h.xl, h.ne⟩, (ExtX.refl σ).set fun hx => (h.hX _ hx).2.2 rfl⟩
   · obtain ⟨es2, e1, _, e3⟩ := h.b
     rw [g1] at e1; cases e1; exact e3
   · rcases put_keys q2 nm _ p hp with rfl | hp
     · rfl
     · exact q3 p hp
   · rw [mapGet_put q2]
     by_cases e : s = nm
     · subst e; simp [hc]
     · simp [e, q4 s]
 · refine CW.cond (t := false) (by simp [zT, zF, lk, hc]) ?_
   refine CW.skip (hR0 _ _ _ ⟨.tup [], by simp [zA, omap], rfl, h.set (fun _ => rfl) fun s => ⟨.inl, fun hs => ?_⟩, .refl σ⟩)
   rcases hs with hs | ⟨h1, rfl⟩
   · exact hs
   · exact absurd h1 hc
def frA : Atm → ByteArray → Prop
 | .mk k nm _ _ _, s => k = 1 ∧ s = nm
theorem frA_app {l : List Atm} {i : Nat} (h : i < l.length) (s : ByteArray) : (∃ a ∈ l.take (i + 1), frA a s) ↔ (∃ a ∈ l.take i, frA a s) ∨ frA l[i] s := by
 rw [List.take_succ_eq_append_getElem h]
 simp only [List.mem_append, List.mem_singleton]
 constructor
 · rintro ⟨a, h1 | h1, h2⟩
   · exact .inl ⟨a, h1, h2⟩
   · subst h1; exact .inr h2
 · rintro (⟨a, h1, h2⟩ | h2)
   · exact ⟨a, .inl h1, h2⟩
   · exact ⟨_, .inr rfl, h2⟩
theorem latoms_ev (H : LkH S) (h : LAt X σ lid bid nid c F) (l : List Atm) (tok : Tok) (hl : l.length ≤ 1000000000000) :
    CallW Tryz.prog (S.E N) 100 [.ptr lid 0, .sl (atmR l) tok] σ (LPost X σ lid bid nid c fun s => F s ∨ (c s = 0 ∧ ∃ a ∈ l, frA a s)) := by
 refine CallW.startF (fn := Tryz.f100) (prim_none H.s2 H.b2) (codeOf H.code Tryz.func100 rfl (by kernel_rfl)) rfl H.m2 rfl (zL rfl) fun tm => ?_
 refine CW.hide fun R0 hR0 => ?_
 refine CW.seqK fun K hK => CW.region ?_
 simp (maxDischargeDepth := 16) [zY]
 refine hK _ _ ?_; clear hK K
 refine CW.block (CW.hide fun R hR => ?_)
 refine CW.loopF (fun p : Nat × Sto => [(0, .ptr lid 0), (6, .sl (atmR l) tok), (7, intV l.length), (8, intV p.1)]) (fun p => p.2) (fun p => p.1 ≤ l.length ∧ LAt X p.2 lid bid nid c (fun s => F s ∨ (c s = 0 ∧ ∃ a ∈ l.take p.1, frA a s)) ∧ ExtX X σ p.2) (fun p => l.length - p.1) (0, σ) (by simp [sub, lk]) rfl ⟨by simp, by simpa using h, .refl σ⟩ ?_
 rintro ⟨i, σ1⟩ tm ⟨hi, hb, hx⟩
 dsimp only at hi hb hx ⊢
 refine CW.hide fun R2 hR2 => CW.seqK fun K4 hK4 => CW.region ?_
 rcases Nat.lt_or_ge i l.length with hlt | hge
 · simp (maxDischargeDepth := 16) [zY, hlt]
   refine hK4 _ _ ?_
   refine CW.seqK fun K3 hK3 => ?_
   refine CW.cond (t := true) (by simp [zT, zF, lk]) ?_
   refine CW.skip (hK3 _ _ ?_)
   refine CW.seqK fun K5 hK5 => CW.block ?_
   have ha := atmR_get hlt
   have hfr := frA_app hlt
   have fin : ∀ (σ2 : Sto) (fr : List (Nat × AV)) (tm : List AV), LAt X σ2 lid bid nid c (fun s => F s ∨ (c s = 0 ∧ ∃ a ∈ l.take (i + 1), frA a s)) → ExtX X σ1 σ2 → sub [(0, .ptr lid 0), (6, .sl (atmR l) tok), (7, intV l.length), (8, intV i)] fr → K5 (fm 20 fr tm) σ2 := by
    intro σ2 fr tm e x2 hfr
    rw [fm_sub hfr]
    refine hK5 _ _ ?_
    refine CW.region ?_
    simp (maxDischargeDepth := 16) [zY, wrap_succ (show i ≤ 1000000000000 by omega)]
    exact hR2 _ _ _ ⟨(i + 1, σ2), _, _, rfl, by simp [sub, lk], rfl, ⟨by show i + 1 ≤ _; omega, e, hx.trans x2⟩, by show l.length - (i + 1) < l.length - i; omega⟩
   generalize l[i] = x at ha hfr
   obtain ⟨k, nm, ng, dg, tr⟩ := x
   simp only [Atm.cs] at ha
   refine CW.seqK fun K hK => CW.region ?_
   simp (maxDischargeDepth := 16) [zY, ha]
   refine hK _ _ ?_; clear hK K
   refine CW.seqK fun K hK => CW.region ?_
   simp (maxDischargeDepth := 16) [zY]
   refine hK _ _ ?_; clear hK K
   have hb2 := hb.app [.cells [.lit (.int .u8 k), .lit (.string nm), .lit (.bool ng), .sl (limR dg) .no, .lit (.bool tr)] 41]
   have hx2 : ExtX X σ1 (σ1 ++ [.cells [.lit (.int .u8 k), .lit (.string nm), .lit (.bool ng), .sl (limR dg) .no, .lit (.bool tr)] 41]) := (ExtX.refl σ1).push (fun p hp => (hb.hX p hp).1) _
   rcases Classical.em (k = 1) with hk | hk
   · refine CW.cond (t := true) (by simp [zT, zF, lk, hk]) ?_
     refine CW.region ?_
     simp (maxDischargeDepth := 16) [zY]
     refine (lput_ev (N := N) H hb2 nm).mono ?_
     rintro r σ2 ⟨rfl, h1, h2⟩
     simp (maxDischargeDepth := 16) [zY]
     refine fin σ2 _ _ (h1.set (fun _ => rfl) fun s => ?_) (hx2.trans h2) (by simp [sub, lk])
     rw [hfr s]
     simp only [frA, hk, true_and]
     constructor
     · rintro ((h | ⟨h, h'⟩) | ⟨h, h'⟩)
       · exact .inl h
       · exact .inr ⟨h, .inl h'⟩
       · exact .inr ⟨h, .inr h'⟩
     · rintro (h | ⟨h, h' | h'⟩)
       · exact .inl (.inl h)
       · exact .inl (.inr ⟨h, h'⟩)
       · exact .inr ⟨h, h'⟩
   · refine CW.cond (t := false) (by simp [zT, zF, lk, hk]) ?_
     refine CW.skip (fin _ _ _ (hb2.set (fun _ => rfl) fun s => ?_) hx2 (by simp [sub, lk]))
     rw [hfr s]
     simp only [frA, hk, false_and, or_false]
 · simp (maxDischargeDepth := 16) [zY, Nat.not_lt.2 hge]
   refine hK4 _ _ ?_
   refine CW.seqK fun K3 hK3 => ?_
   refine CW.cond (t := false) (by simp [zT, zF, lk]) ?_
   refine CW.exit (hR2 _ _ _ (hR _ _ _ ?_))
   simp only [outOf, if_true]
   rw [List.take_of_length_le hge] at hb
   exact hR0 _ _ _ ⟨.tup [], by simp [zA, omap], rfl, hb, hx⟩
def cntS : List ByteArray → ByteArray → Int
 | [], _ => 0
 | x :: l, s => (if s = x then 1 else 0) + cntS l s
theorem cntS_app : ∀ (a b : List ByteArray) (s : ByteArray), cntS (a ++ b) s = cntS a s + cntS b s
 | [], b, s => by simp [cntS]
 | x :: a, b, s => by rw [List.cons_append, cntS, cntS, cntS_app a b]; omega
theorem cntS_le : ∀ (a : List ByteArray) (s : ByteArray), 0 ≤ cntS a s ∧ cntS a s ≤ a.length
 | [], s => by simp [cntS]
 | x :: a, s => by have := cntS_le a s; simp only [cntS, List.length_cons]; split <;> omega
theorem cntS_zero : ∀ (a : List ByteArray) (s : ByteArray), cntS a s = 0 ↔ s ∉ a
 | [], s => by simp [cntS]
 | x :: a, s => by
  have h1 := cntS_le a s
  have h2 := cntS_zero a s
  simp only [cntS, List.mem_cons, not_or, ← h2]
  split
  · rename_i e; subst e; simp; omega
  · rename_i e; simp [e]
theorem cntS_take {l : List ByteArray} {i : Nat} (h : i < l.length) (s : ByteArray) : cntS (l.take (i + 1)) s = cntS (l.take i) s + if s = l[i] then 1 else 0 := by
 rw [List.take_succ_eq_append_getElem h, cntS_app]; simp [cntS]
def Then (S : Sp) (N : Nat) (X : Nat → Prop) (σ0 : Sto) (lid bid nid : Nat) (tf : FuncId) (tc : List AV) (m : Nat) (G : ByteArray → Prop) : Prop :=
 ∀ (Y : Nat → Prop) (σ1 : Sto) (c : ByteArray → Int) (F : ByteArray → Prop), (∀ p, X p → Y p) → LAt Y σ1 lid bid nid c F → (∀ s, 0 ≤ c s ∧ c s + m ≤ 1000000000000000) → ExtX X σ0 σ1 →
  CallW Tryz.prog (S.E N) tf tc σ1 (LPost Y σ1 lid bid nid c fun s => F s ∨ (c s = 0 ∧ G s))
theorem LAt.bump (h : LAt X σ lid bid nid c F) (nm : ByteArray) (v : Int) : ∃ es, σ[bid]? = some (.map .str es) ∧ (mapGet (.string nm) es).getD (intV 0) = intV (c nm) ∧ LAt X (σ.set bid (.map .str (mapPut (.string nm) (intV v) es))) lid bid nid (fun s => if s = nm then v else c s) F := by
 obtain ⟨es, g1, g2, g3⟩ := h.b
 obtain ⟨ns, q1, q2⟩ := h.n
 obtain ⟨_, _, _, l0, l1, l2⟩ := h.nb
 refine ⟨es, g1, g3 nm, by rw [List.getElem?_set_ne (Ne.symm (h.hX lid h.xl).2.1)]; exact h.l, ⟨_, st_same l1, g2.put nm _, fun s => ?_⟩, ⟨ns, by rw [List.getElem?_set_ne h.ne]; exact q1, q2⟩, fun p hp => by simpa using h.hX p hp, h.xl, h.ne⟩
 rw [mapGet_put g2]
 by_cases e : s = nm
 · subst e; simp
 · simp [e, g3 s]
theorem lwithin_ev (H : LkH S) (h : LAt X σ lid bid nid c F) (tf : FuncId) (tc : List AV) (m : Nat) (G : ByteArray → Prop) (ns : List ByteArray) (tok : Tok) (hn : ns.length ≤ 1000000000000) (hc : ∀ s, 0 ≤ c s ∧ c s + (ns.length + m : Nat) ≤ 1000000000000000) (ht : Then S N X σ lid bid nid tf tc m G) :
    CallW Tryz.prog (S.E N) 105 [.ptr lid 0, .fn (.func tf) [] tc, .sl (txtR ns) tok] σ (LPost X σ lid bid nid c fun s => F s ∨ (c s = 0 ∧ s ∉ ns ∧ G s)) := by
 refine CallW.startF (fn := Tryz.f105) (prim_none H.s3 H.b3) (codeOf H.code Tryz.func105 rfl (by kernel_rfl)) rfl H.m3 rfl (zL rfl) fun tm => ?_
 refine CW.hide fun R0 hR0 => ?_
 refine CW.seqK fun K hK => ?_
 refine CW.seqK fun K hK => CW.region ?_
 simp (maxDischargeDepth := 16) [zY]
 refine hK _ _ ?_; clear hK K
 refine CW.block (CW.hide fun R hR => ?_)
 refine CW.loopF (fun p : Nat × Sto => [(0, .ptr lid 0), (1, .fn (.func tf) [] tc), (2, .sl (txtR ns) tok), (10, .sl (txtR ns) tok), (11, intV ns.length), (12, intV p.1)]) (fun p => p.2) (fun p => p.1 ≤ ns.length ∧ LAt X p.2 lid bid nid (fun s => c s + cntS (ns.take p.1) s) F ∧ ExtX X σ p.2) (fun p => ns.length - p.1) (0, σ) (by simp [sub, lk]) rfl ⟨by simp, h.set (fun s => by simp [cntS]) fun _ => Iff.rfl, .refl σ⟩ ?_
 rintro ⟨i, σ1⟩ tm ⟨hi, hb, hx⟩
 dsimp only at hi hb hx ⊢
 refine CW.hide fun R2 hR2 => CW.seqK fun K4 hK4 => CW.region ?_
 rcases Nat.lt_or_ge i ns.length with hlt | hge
 · simp (maxDischargeDepth := 16) [zY, hlt]
   refine hK4 _ _ ?_
   refine CW.seqK fun K3 hK3 => ?_
   refine CW.cond (t := true) (by simp [zT, zF, lk]) ?_
   refine CW.skip (hK3 _ _ ?_)
   refine CW.seqK fun K5 hK5 => CW.block ?_
   have ha := txtR_get hlt
   have hct := cntS_take hlt
   refine CW.seqK fun K hK => CW.region ?_
   simp (maxDischargeDepth := 16) [zY, ha]
   refine hK _ _ ?_; clear hK K
   generalize ns[i] = nm at ha hct
   have hcl := cntS_le (ns.take i) nm
   rw [List.length_take_of_le (Nat.le_of_lt hlt)] at hcl
   have hcn := hc nm
   have hw : IntKind.i64.wrap (c nm + cntS (ns.take i) nm + 1) = c nm + cntS (ns.take i) nm + 1 := IntWalk.i64_in _ ⟨by omega, by omega⟩
   obtain ⟨es, e1, e2, e3⟩ := hb.bump nm (c nm + cntS (ns.take i) nm + 1)
   have hl := hb.l
   refine CW.region ?_
   simp (maxDischargeDepth := 16) [zY, hl, e1, e2, lookA, hw]
   refine hK5 _ _ ?_
   refine CW.region ?_
   simp (maxDischargeDepth := 16) [zY, wrap_succ (show i ≤ 1000000000000 by omega)]
   refine hR2 _ _ _ ⟨(i + 1, _), _, _, rfl, by simp [sub, lk], rfl, ⟨by show i + 1 ≤ _; omega, e3.set (fun s => ?_) fun _ => Iff.rfl, hx.trans ((ExtX.refl σ1).set fun hx => (hb.hX _ hx).2.1 rfl)⟩, by show ns.length - (i + 1) < ns.length - i; omega⟩
   show (if s = nm then c nm + cntS (ns.take i) nm + 1 else c s + cntS (ns.take i) s) = c s + cntS (ns.take (i + 1)) s
   rw [hct s]
   split
   · rename_i e; subst e; omega
   · omega
 · simp (maxDischargeDepth := 16) [zY, Nat.not_lt.2 hge]
   refine hK4 _ _ ?_
   refine CW.seqK fun K3 hK3 => ?_
   refine CW.cond (t := false) (by simp [zT, zF, lk]) ?_
   refine CW.exit (hR2 _ _ _ (hR _ _ _ ?_))
   simp only [outOf, if_true]
   refine hK _ _ ?_
   rw [List.take_of_length_le hge] at hb
   refine CW.seqK fun K hK => CW.region ?_
   simp (maxDischargeDepth := 16) [zY]
   refine (ht X σ1 _ F (fun _ hp => hp) hb (fun s => by have := cntS_le ns s; have := hc s; omega) hx).mono ?_
   rintro r σ2 ⟨rfl, hb2, hx2⟩
   simp (maxDischargeDepth := 16) [zY]
   refine hK _ _ ?_; clear hK K
   refine CW.seqK fun K hK => CW.region ?_
   simp (maxDischargeDepth := 16) [zY]
   refine hK _ _ ?_; clear hK K
   refine CW.block (CW.hide fun R hR => ?_)
   refine CW.loopF (fun p : Nat × Sto => [(0, .ptr lid 0), (26, .sl (txtR ns) tok), (27, intV ns.length), (28, intV p.1)]) (fun p => p.2) (fun p => p.1 ≤ ns.length ∧ LAt X p.2 lid bid nid (fun s => c s + cntS ns s - cntS (ns.take p.1) s) (fun s => F s ∨ (c s = 0 ∧ s ∉ ns ∧ G s)) ∧ ExtX X σ p.2) (fun p => ns.length - p.1) (0, σ2) (by simp [sub, lk]) rfl ⟨by simp, hb2.set (fun s => by simp [cntS]) fun s => ?_, hx.trans hx2⟩ ?_
   · have h1 := cntS_le ns s
     have h2 := cntS_zero ns s
     have h3 := hc s
     rw [← h2]
     constructor
     · rintro (h | ⟨h, h'⟩)
       · exact .inl h
       · exact .inr ⟨by omega, by omega, h'⟩
     · rintro (h | ⟨h, h', h''⟩)
       · exact .inl h
       · exact .inr ⟨by omega, h''⟩
   rintro ⟨i, σ3⟩ tm ⟨hi, hb, hx⟩
   dsimp only at hi hb hx ⊢
   refine CW.hide fun R2 hR2 => CW.seqK fun K4 hK4 => CW.region ?_
   rcases Nat.lt_or_ge i ns.length with hlt | hge
   · simp (maxDischargeDepth := 16) [zY, hlt]
     refine hK4 _ _ ?_
     refine CW.seqK fun K3 hK3 => ?_
     refine CW.cond (t := true) (by simp [zT, zF, lk]) ?_
     refine CW.skip (hK3 _ _ ?_)
     refine CW.seqK fun K5 hK5 => CW.block ?_
     have ha := txtR_get hlt
     have hct := cntS_take hlt
     refine CW.seqK fun K hK => CW.region ?_
     simp (maxDischargeDepth := 16) [zY, ha]
     refine hK _ _ ?_; clear hK K
     generalize ns[i] = nm at ha hct
     have hcl := cntS_le (ns.take i) nm
     have hcl2 := cntS_le ns nm
     rw [List.length_take_of_le (Nat.le_of_lt hlt)] at hcl
     have hcn := hc nm
     have hw : IntKind.i64.wrap (c nm + cntS ns nm - cntS (ns.take i) nm - 1) = c nm + cntS ns nm - cntS (ns.take i) nm - 1 := IntWalk.i64_in _ ⟨by omega, by omega⟩
     obtain ⟨es, e1, e2, e3⟩ := hb.bump nm (c nm + cntS ns nm - cntS (ns.take i) nm - 1)
     have hl := hb.l
     refine CW.region ?_
     simp (maxDischargeDepth := 16) [zY, hl, e1, e2, lookA, hw]
     refine hK5 _ _ ?_
     refine CW.region ?_
     simp (maxDischargeDepth := 16) [zY, wrap_succ (show i ≤ 1000000000000 by omega)]
     refine hR2 _ _ _ ⟨(i + 1, _), _, _, rfl, by simp [sub, lk], rfl, ⟨by show i + 1 ≤ _; omega, e3.set (fun s => ?_) fun _ => Iff.rfl, hx.trans ((ExtX.refl σ3).set fun hx => (hb.hX _ hx).2.1 rfl)⟩, by show ns.length - (i + 1) < ns.length - i; omega⟩
     show (if s = nm then c nm + cntS ns nm - cntS (ns.take i) nm - 1 else c s + cntS ns s - cntS (ns.take i) s) = c s + cntS ns s - cntS (ns.take (i + 1)) s
     rw [hct s]
     split
     · rename_i e; subst e; omega
     · omega
   · simp (maxDischargeDepth := 16) [zY, Nat.not_lt.2 hge]
     refine hK4 _ _ ?_
     refine CW.seqK fun K3 hK3 => ?_
     refine CW.cond (t := false) (by simp [zT, zF, lk]) ?_
     refine CW.exit (hR2 _ _ _ (hR _ _ _ ?_))
     simp only [outOf, if_true]
     rw [List.take_of_length_le hge] at hb
     exact hR0 _ _ _ ⟨.tup [], by simp [zA, omap], rfl, hb.set (fun s => by omega) fun _ => Iff.rfl, hx⟩
end
end Go.Proofs.YteajcnilihgheaaGreatDoor
