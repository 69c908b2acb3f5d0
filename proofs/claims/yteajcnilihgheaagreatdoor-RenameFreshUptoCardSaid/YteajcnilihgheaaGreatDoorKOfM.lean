/-
 EV: the statements' kit: how much there is (printed by gen_of.py).
-/
import Derived.Test.YteajcnilihgheaaGreatDoorKSameM
namespace Go.Proofs.YteajcnilihgheaaGreatDoor
set_option maxRecDepth 100000
set_option maxHeartbeats 8000000
set_option linter.unusedSimpArgs false
set_option linter.unusedVariables false
open Go.RowKit
def gst (n m : Int) (f : Int → Int) : Int := if n ≤ m then IntKind.i64.wrap (n + f (IntKind.i64.wrap (m - n))) else n
theorem gst_pos {n m : Int} {f : Int → Int} (h : n ≤ m) : gst n m f = IntKind.i64.wrap (n + f (IntKind.i64.wrap (m - n))) := if_pos h
theorem gst_neg {n m : Int} {f : Int → Int} (h : ¬ n ≤ m) : gst n m f = n := if_neg h
abbrev smF {α : Type} (A : α → List AV) (R : α → AV) (p : α → Prop) (n : α → Nat) (r : Nat) : FS := ⟨α, A, fun a _ => p a, fun a σ => (.ret (R a), σ), fun a => 16 * n a + r⟩
theorem call_sm {P : Program} {S : Sp} {N r : Nat} {f : FuncId} {α : Type} {A : α → List AV} {R : α → AV} {p : α → Prop} {n : α → Nat} {args : List AV} {σ : Sto} {Q : ARes → Sto → Prop} (x : α) (h : S.sp f = some (smF A R p n r)) (hi : ∀ a b : α, A a = A b → a = b) (ha : nrmR args = A x) (hb : p x) (hN : 16 * n x + r < N)
    (hq : accW (S.E N) f args σ (.ret (R x)) σ = .lcalls (fun _ => true) → Q (.ret (R x)) σ) : CallW P (S.E N) f args σ Q :=
 have hu : FS.uniq (smF A R p n r) := fun a b σ e _ _ => by cases hi _ _ e; rfl
 call_sp x h hu ha hb hN (hq (by have := acc_sp (σ := σ) x h hu ha hN rfl (fun l => ⟨hb, rfl⟩); rw [kept_self] at this; exact this))
abbrev SmOk (P : Program) (S : Sp) (N : Nat) (f : FuncId) {α : Type} (A : α → List AV) (R : α → AV) (p : α → Prop) (n : α → Nat) (r : Nat) : Prop := ∀ (a : α) (σ : Sto), p a → 16 * n a + r ≤ N → JC P (S.E N) f (A a) σ fun r σ' => Fgt σ r σ' (.ret (R a)) σ
theorem wrapS {i : Nat} (h : i ≤ 1000000000000000) : IntKind.i64.wrap ((i : Int) + 1) = ((i + 1 : Nat) : Int) := IntWalk.i64_in _ ⟨by omega, by omega⟩
theorem two_inj {α : Type} {A : α → AV} (h : ∀ a b, A a = A b → a = b) (p q : α × Int) (e : [A p.1, intV p.2] = [A q.1, intV q.2]) : p = q := by
 obtain ⟨a, x⟩ := p; obtain ⟨b, y⟩ := q
 simp only [List.cons.injEq, and_true, AV.lit.injEq, Value.int.injEq, true_and] at e
 rw [h _ _ e.1, e.2]
mutual
def Trm.sm : Trm → Prop
 | .mk k nm ng dg ks => nm.size ≤ 140737488355328 ∧ dg.length ≤ 140737488355328 ∧ ks.length ≤ 140737488355328 ∧ trmSm ks
def trmSm : List Trm → Prop
 | [] => True
 | x :: l => x.sm ∧ trmSm l
end
theorem trmSm_get {l : List Trm} {i : Nat} (hs : trmSm l) (h : i < l.length) : l[i].sm := by
 induction l generalizing i with
 | nil => simp at h
 | cons x l ih =>
  cases i with
  | zero => exact hs.1
  | succ i => exact ih hs.2 (by simpa using h)
mutual
def Ty.sm : Ty → Prop
 | .mk fn st rf ps rs => st.size ≤ 140737488355328 ∧ rf.sm ∧ ps.length ≤ 140737488355328 ∧ prmSm ps ∧ rs.length ≤ 140737488355328 ∧ tySm rs
def tySm : List Ty → Prop
 | [] => True
 | x :: l => x.sm ∧ tySm l
def Prm.sm : Prm → Prop
 | .mk nm ty => nm.size ≤ 140737488355328 ∧ ty.sm
def prmSm : List Prm → Prop
 | [] => True
 | x :: l => x.sm ∧ prmSm l
end
theorem tySm_get {l : List Ty} {i : Nat} (hs : tySm l) (h : i < l.length) : l[i].sm := by
 induction l generalizing i with
 | nil => simp at h
 | cons x l ih =>
  cases i with
  | zero => exact hs.1
  | succ i => exact ih hs.2 (by simpa using h)
theorem prmSm_get {l : List Prm} {i : Nat} (hs : prmSm l) (h : i < l.length) : l[i].sm := by
 induction l generalizing i with
 | nil => simp at h
 | cons x l ih =>
  cases i with
  | zero => exact hs.1
  | succ i => exact ih hs.2 (by simpa using h)
def Atm.sm : Atm → Prop
 | .mk k nm ng dg tr => nm.size ≤ 140737488355328 ∧ dg.length ≤ 140737488355328
def atmSm : List Atm → Prop
 | [] => True
 | x :: l => x.sm ∧ atmSm l
theorem atmSm_get {l : List Atm} {i : Nat} (hs : atmSm l) (h : i < l.length) : l[i].sm := by
 induction l generalizing i with
 | nil => simp at h
 | cons x l ih =>
  cases i with
  | zero => exact hs.1
  | succ i => exact ih hs.2 (by simpa using h)
mutual
def Exp.sm : Exp → Prop
 | .mk k nm ty rh am ar bd => nm.size ≤ 140737488355328 ∧ ty.length ≤ 140737488355328 ∧ tySm ty ∧ rh.length ≤ 140737488355328 ∧ rhsSm rh ∧ am.sm ∧ ar.length ≤ 140737488355328 ∧ armSm ar ∧ bd.length ≤ 140737488355328 ∧ expSm bd
def expSm : List Exp → Prop
 | [] => True
 | x :: l => x.sm ∧ expSm l
def Rhs.sm : Rhs → Prop
 | .mk k nm ats ps rs bd ts => nm.size ≤ 140737488355328 ∧ ats.length ≤ 140737488355328 ∧ atmSm ats ∧ ps.length ≤ 140737488355328 ∧ prmSm ps ∧ rs.length ≤ 140737488355328 ∧ tySm rs ∧ bd.length ≤ 140737488355328 ∧ expSm bd ∧ ts.length ≤ 140737488355328 ∧ trmSm ts
def rhsSm : List Rhs → Prop
 | [] => True
 | x :: l => x.sm ∧ rhsSm l
def Arm.sm : Arm → Prop
 | .mk cn ns bd => cn.size ≤ 140737488355328 ∧ ns.length ≤ 140737488355328 ∧ bd.length ≤ 140737488355328 ∧ expSm bd
def armSm : List Arm → Prop
 | [] => True
 | x :: l => x.sm ∧ armSm l
end
theorem expSm_get {l : List Exp} {i : Nat} (hs : expSm l) (h : i < l.length) : l[i].sm := by
 induction l generalizing i with
 | nil => simp at h
 | cons x l ih =>
  cases i with
  | zero => exact hs.1
  | succ i => exact ih hs.2 (by simpa using h)
theorem rhsSm_get {l : List Rhs} {i : Nat} (hs : rhsSm l) (h : i < l.length) : l[i].sm := by
 induction l generalizing i with
 | nil => simp at h
 | cons x l ih =>
  cases i with
  | zero => exact hs.1
  | succ i => exact ih hs.2 (by simpa using h)
theorem armSm_get {l : List Arm} {i : Nat} (hs : armSm l) (h : i < l.length) : l[i].sm := by
 induction l generalizing i with
 | nil => simp at h
 | cons x l ih =>
  cases i with
  | zero => exact hs.1
  | succ i => exact ih hs.2 (by simpa using h)
mutual
def trmOf : Trm → Int → Int
 | .mk k nm ng dg ks, m => IntKind.i64.wrap (IntKind.i64.wrap (IntKind.i64.wrap (1 + IntKind.i64.wrap (Int.tdiv nm.size 8)) + dg.length) + trmsGo ks (IntKind.i64.wrap (m - 1)) 0)
def trmsGo : List Trm → Int → Int → Int
 | [], m, n => n
 | x :: l, m, n => if n ≤ m then trmsGo l m (IntKind.i64.wrap (n + trmOf x (IntKind.i64.wrap (m - n)))) else n
end
mutual
def Ty.step : Ty → Int → Int → Int
 | .mk fn st (.mk rfk rfnm rfng rfdg rfks) ps rs, m, n => (gst (gst (IntKind.i64.wrap ((IntKind.i64.wrap (n + 1)) + trmOf (.mk rfk rfnm rfng rfdg rfks) (IntKind.i64.wrap (m - n)))) m fun m => prmsGo ps m 0) m fun m => tysGo rs m 0)
def tysGo : List Ty → Int → Int → Int
 | [], m, n => n
 | x :: l, m, n => if n ≤ m then tysGo l m (x.step m n) else n
def Prm.step : Prm → Int → Int → Int
 | .mk nm ty, m, n => IntKind.i64.wrap (IntKind.i64.wrap (n + 1) + if 0 ≤ IntKind.i64.wrap (m - n) then ty.step (IntKind.i64.wrap (m - n)) 0 else 0)
def prmsGo : List Prm → Int → Int → Int
 | [], m, n => n
 | x :: l, m, n => if n ≤ m then prmsGo l m (x.step m n) else n
end
def Atm.step : Atm → Int → Int → Int
 | .mk k nm ng dg tr, m, n => (IntKind.i64.wrap (n + dg.length))
def atmGo : List Atm → Int → Int → Int
 | [], m, n => n
 | x :: l, m, n => if n ≤ m then atmGo l m (x.step m n) else n
mutual
def Exp.step : Exp → Int → Int → Int
 | .mk k nm ty rh (.mk amk amnm amng amdg amtr) ar bd, m, n => (gst (armGo ar m (gst (gst (IntKind.i64.wrap ((IntKind.i64.wrap (n + 1)) + amdg.length)) m fun m => tysGo ty m 0) m fun m => rhssGo rh m 0)) m fun m => expsGo bd m 0)
def expsGo : List Exp → Int → Int → Int
 | [], m, n => n
 | x :: l, m, n => if n ≤ m then expsGo l m (x.step m n) else n
def Rhs.step : Rhs → Int → Int → Int
 | .mk k nm ats ps rs bd ts, m, n => (gst (gst (gst (gst (atmGo ats m (IntKind.i64.wrap ((IntKind.i64.wrap (n + 1)) + ats.length))) m fun m => prmsGo ps m 0) m fun m => tysGo rs m 0) m fun m => expsGo bd m 0) m fun m => trmsGo ts m 0)
def rhssGo : List Rhs → Int → Int → Int
 | [], m, n => n
 | x :: l, m, n => if n ≤ m then rhssGo l m (x.step m n) else n
def Arm.step : Arm → Int → Int → Int
 | .mk cn ns bd, m, n => (gst (IntKind.i64.wrap ((IntKind.i64.wrap (n + 1)) + ns.length)) m fun m => expsGo bd m 0)
def armGo : List Arm → Int → Int → Int
 | [], m, n => n
 | x :: l, m, n => if n ≤ m then armGo l m (x.step m n) else n
end
abbrev trmOfF : FS := smF (fun p : Trm × Int => [.agg p.1.cs, intV p.2]) (fun p => intV (trmOf p.1 p.2)) (fun p => p.1.sm) (fun p => p.1.n) 2
theorem trmOf2_inj (p q : Trm × Int) (e : [AV.agg p.1.cs, intV p.2] = [.agg q.1.cs, intV q.2]) : p = q := two_inj (A := fun t : Trm => .agg t.cs) (agg_inj Trm.inj) p q e
abbrev trmsGoF : FS := smF (fun p : List Trm × Int => [.sl (trmR p.1) .no, intV p.2]) (fun p => intV (trmsGo p.1 p.2 0)) (fun p => p.1.length ≤ 140737488355328 ∧ trmSm p.1) (fun p => trmN p.1) 3
theorem trmsGo_inj (p q : List Trm × Int) (e : [AV.sl (trmR p.1) .no, intV p.2] = [.sl (trmR q.1) .no, intV q.2]) : p = q := two_inj (A := fun l => .sl (trmR l) .no) (sl_inj trmR_inj) p q e
abbrev tysGoF : FS := smF (fun p : List Ty × Int => [.sl (tyR p.1) .no, intV p.2]) (fun p => intV (tysGo p.1 p.2 0)) (fun p => p.1.length ≤ 140737488355328 ∧ tySm p.1) (fun p => tyN p.1) 5
theorem tysGo_inj (p q : List Ty × Int) (e : [AV.sl (tyR p.1) .no, intV p.2] = [.sl (tyR q.1) .no, intV q.2]) : p = q := two_inj (A := fun l => .sl (tyR l) .no) (sl_inj tyR_inj) p q e
abbrev prmsGoF : FS := smF (fun p : List Prm × Int => [.sl (prmR p.1) .no, intV p.2]) (fun p => intV (prmsGo p.1 p.2 0)) (fun p => p.1.length ≤ 140737488355328 ∧ prmSm p.1) (fun p => prmN p.1) 6
theorem prmsGo_inj (p q : List Prm × Int) (e : [AV.sl (prmR p.1) .no, intV p.2] = [.sl (prmR q.1) .no, intV q.2]) : p = q := two_inj (A := fun l => .sl (prmR l) .no) (sl_inj prmR_inj) p q e
abbrev rhssGoF : FS := smF (fun p : List Rhs × Int => [.sl (rhsR p.1) .no, intV p.2]) (fun p => intV (rhssGo p.1 p.2 0)) (fun p => p.1.length ≤ 140737488355328 ∧ rhsSm p.1) (fun p => rhsN p.1) 7
theorem rhssGo_inj (p q : List Rhs × Int) (e : [AV.sl (rhsR p.1) .no, intV p.2] = [.sl (rhsR q.1) .no, intV q.2]) : p = q := two_inj (A := fun l => .sl (rhsR l) .no) (sl_inj rhsR_inj) p q e
abbrev expsGoF : FS := smF (fun p : List Exp × Int => [.sl (expR p.1) .no, intV p.2]) (fun p => intV (expsGo p.1 p.2 0)) (fun p => p.1.length ≤ 140737488355328 ∧ expSm p.1) (fun p => expN p.1) 7
theorem expsGo_inj (p q : List Exp × Int) (e : [AV.sl (expR p.1) .no, intV p.2] = [.sl (expR q.1) .no, intV q.2]) : p = q := two_inj (A := fun l => .sl (expR l) .no) (sl_inj expR_inj) p q e
variable {S : Sp} {N : Nat}
theorem TermOf_w (hc : S.code = codeP Tryz.prog) (hm : S.ms 51 = []) (h_TermsOf : S.sp 86 = some trmsGoF) : SmOk Tryz.prog S N 51 (fun p : Trm × Int => [.agg p.1.cs, intV p.2]) (fun p => intV (trmOf p.1 p.2)) (fun p => p.1.sm) (fun p => p.1.n) 2 := by
 rintro ⟨⟨k, nm, ng, dg, ks⟩, m⟩ σ hl hN
 refine JC.startF (fn := Tryz.f51) (codeOf hc Tryz.func51 rfl (by kernel_rfl)) rfl hm rfl (zL rfl) fun tm => ?_
 refine CW.hide fun R0 hR0 => ?_
 simp only [Trm.n] at hN
 simp only [Trm.sm] at hl
 simp only [Trm.cs]
 refine CW.seqK fun K hK => CW.region ?_
 simp (maxDischargeDepth := 16) [zY]
 refine hK _ _ ?_; clear hK K
 refine CW.seqK fun K hK => CW.draw (by kernel_rfl) ?_
 simp (maxDischargeDepth := 16) [zY]
 refine call_sm (ks, IntKind.i64.wrap (m - 1)) h_TermsOf trmsGo_inj (by simp only [nrmR, AV.nrm, trmR_nrm]) ⟨hl.2.2.1, hl.2.2.2⟩ (by dsimp only; omega) fun hac => ?_
 simp (maxDischargeDepth := 16) [zY, hac]
 refine ⟨by kernel_rfl, hK _ _ ?_⟩
 exact CW.ret (hR0 _ _ _ ⟨intV (trmOf (.mk k nm ng dg ks) m), by simp [zA, omap, zB, zF, lk, trmOf], done rfl rfl⟩)
theorem TermsOf_w (hc : S.code = codeP Tryz.prog) (hm : S.ms 86 = []) (h_TermOf : S.sp 51 = some trmOfF) : SmOk Tryz.prog S N 86 (fun p : List Trm × Int => [.sl (trmR p.1) .no, intV p.2]) (fun p => intV (trmsGo p.1 p.2 0)) (fun p => p.1.length ≤ 140737488355328 ∧ trmSm p.1) (fun p => trmN p.1) 3 := by
 rintro ⟨l, m⟩ σ ⟨hll, hsm⟩ hN
 refine JC.startF (fn := Tryz.f86) (codeOf hc Tryz.func86 rfl (by kernel_rfl)) rfl hm rfl (zL rfl) fun tm => ?_
 refine CW.hide fun R0 hR0 => ?_
 dsimp only at hll hsm hN ⊢
 refine CW.seqK fun K hK => CW.region ?_
 simp (maxDischargeDepth := 16) [zY]
 refine hK _ _ ?_; clear hK K
 refine CW.seqK fun K hK => CW.region ?_
 simp (maxDischargeDepth := 16) [zY]
 refine hK _ _ ?_; clear hK K
 refine CW.seqK fun K hK => ?_
 have outk : ∀ (n2 : Int) (fr : List (Nat × AV)) (tm : List AV), trmsGo l m 0 = n2 → sub [(5, intV n2)] fr → K (fm 29 fr tm) σ := by
  intro n2 fr tm e hfr
  rw [fm_sub hfr]
  refine hK _ _ ?_
  refine CW.seqK fun K hK => CW.region ?_
  simp (maxDischargeDepth := 16) [zY]
  refine hK _ _ ?_; clear hK K
  exact CW.ret (hR0 _ _ _ ⟨intV n2, by simp [zA, omap, zB, zF, lk], by show Fgt _ _ _ (.ret (intV (trmsGo l m 0))) _; rw [e]; exact done0 rfl rfl⟩)
 refine CW.seqK fun K hK => CW.region ?_
 simp (maxDischargeDepth := 16) [zY]
 refine hK _ _ ?_; clear hK K
 refine CW.block (CW.hide fun R hR => ?_)
 refine CW.loopF (fun p : Nat × Int => [(0, .sl (trmR l) .no), (1, intV m), (5, intV p.2), (6, intV p.1)]) (fun _ => σ) (fun p => p.1 ≤ l.length ∧ trmsGo l m 0 = trmsGo (l.drop p.1) m p.2) (fun p => l.length - p.1) (0, 0) (by simp [sub, lk]) rfl ⟨by simp, by simp⟩ ?_
 rintro ⟨i, n⟩ tm ⟨hi, hg⟩
 dsimp only at hi hg ⊢
 refine CW.hide fun R2 hR2 => CW.seqK fun K3 hK3 => CW.seqK fun K4 hK4 => CW.region ?_
 rcases Nat.lt_or_ge i l.length with hlt | hge
 · have ha := trmR_get hlt
   have hgn := trmN_get hlt
   have hsm1 := trmSm_get hsm hlt
   rw [List.drop_eq_getElem_cons hlt, trmsGo] at hg
   generalize l[i] = x at hgn hsm1 ha hg
   rcases Classical.em (n ≤ m) with hnm | hnm
   · rw [if_pos hnm] at hg
     simp (maxDischargeDepth := 16) [zY, hlt, hnm]
     refine hK4 _ _ ?_
     refine CW.cond (t := true) (by simp [zT, zF, lk]) ?_
     refine CW.skip (hK3 _ _ ?_)
     refine CW.seqK fun K5 hK5 => CW.block ?_
     have fin : ∀ (n2 : Int) (fr : List (Nat × AV)) (tm : List AV), IntKind.i64.wrap (n + trmOf x (IntKind.i64.wrap (m - n))) = n2 → sub [(0, .sl (trmR l) .no), (1, intV m), (5, intV n2), (6, intV i)] fr → K5 (fm 29 fr tm) σ := by
      intro n2 fr tm e hfr
      rw [fm_sub hfr]
      refine hK5 _ _ ?_
      refine CW.region ?_
      simp (maxDischargeDepth := 16) [zY, wrapS (show i ≤ 1000000000000000 by omega)]
      exact hR2 _ _ _ ⟨(i + 1, n2), _, _, rfl, by simp [sub, lk], rfl, ⟨by show i + 1 ≤ _; omega, by rw [hg, ← e]⟩, by show l.length - (i + 1) < l.length - i; omega⟩
     refine CW.region ?_
     simp (maxDischargeDepth := 16) [zY, ha, Trm.len, Trm.tk]
     refine call_sm (x, IntKind.i64.wrap (m - n)) h_TermOf trmOf2_inj (by first | (simp only [nrmR, AV.nrm, Trm.nrm, limR_nrm, trmR_nrm]; done) | (simp only [nrmR, AV.nrm, Trm.nrm, limR_nrm, trmR_nrm]; rfl)) hsm1 (by dsimp only [Trm.n]; omega) fun _ => ?_
     simp (maxDischargeDepth := 16) [zY]
     exact fin (IntKind.i64.wrap (n + trmOf x (IntKind.i64.wrap (m - n)))) _ _ (by rfl) (by simp [sub, lk])
   · rw [if_neg hnm] at hg
     simp (maxDischargeDepth := 16) [zY, hlt, hnm, Int.not_le.1 hnm]
     refine hK4 _ _ ?_
     refine CW.cond (t := false) (by simp [zT, zF, lk]) ?_
     refine CW.exit (hR2 _ _ _ (hR _ _ _ ?_))
     simp only [outOf, if_true, andThen]
     exact outk _ _ _ hg (by simp [sub, lk])
 · obtain rfl : i = l.length := by omega
   rw [List.drop_length, trmsGo] at hg
   simp (maxDischargeDepth := 16) [zY]
   refine hK4 _ _ ?_
   refine CW.cond (t := false) (by simp [zT, zF, lk]) ?_
   refine CW.exit (hR2 _ _ _ (hR _ _ _ ?_))
   simp only [outOf, if_true, andThen]
   exact outk _ _ _ hg (by simp [sub, lk])
theorem TypesOf_w (hc : S.code = codeP Tryz.prog) (hm : S.ms 53 = []) (h_ParamsOf : S.sp 52 = some prmsGoF) (h_TermOf : S.sp 51 = some trmOfF) (h_TypesOf : S.sp 53 = some tysGoF) : SmOk Tryz.prog S N 53 (fun p : List Ty × Int => [.sl (tyR p.1) .no, intV p.2]) (fun p => intV (tysGo p.1 p.2 0)) (fun p => p.1.length ≤ 140737488355328 ∧ tySm p.1) (fun p => tyN p.1) 5 := by
 rintro ⟨l, m⟩ σ ⟨hll, hsm⟩ hN
 refine JC.startF (fn := Tryz.f53) (codeOf hc Tryz.func53 rfl (by kernel_rfl)) rfl hm rfl (zL rfl) fun tm => ?_
 refine CW.hide fun R0 hR0 => ?_
 dsimp only at hll hsm hN ⊢
 refine CW.seqK fun K hK => CW.region ?_
 simp (maxDischargeDepth := 16) [zY]
 refine hK _ _ ?_; clear hK K
 refine CW.seqK fun K hK => CW.region ?_
 simp (maxDischargeDepth := 16) [zY]
 refine hK _ _ ?_; clear hK K
 refine CW.seqK fun K hK => ?_
 have outk : ∀ (n2 : Int) (fr : List (Nat × AV)) (tm : List AV), tysGo l m 0 = n2 → sub [(5, intV n2)] fr → K (fm 59 fr tm) σ := by
  intro n2 fr tm e hfr
  rw [fm_sub hfr]
  refine hK _ _ ?_
  refine CW.seqK fun K hK => CW.region ?_
  simp (maxDischargeDepth := 16) [zY]
  refine hK _ _ ?_; clear hK K
  exact CW.ret (hR0 _ _ _ ⟨intV n2, by simp [zA, omap, zB, zF, lk], by show Fgt _ _ _ (.ret (intV (tysGo l m 0))) _; rw [e]; exact done0 rfl rfl⟩)
 refine CW.seqK fun K hK => CW.region ?_
 simp (maxDischargeDepth := 16) [zY]
 refine hK _ _ ?_; clear hK K
 refine CW.block (CW.hide fun R hR => ?_)
 refine CW.loopF (fun p : Nat × Int => [(0, .sl (tyR l) .no), (1, intV m), (5, intV p.2), (6, intV p.1)]) (fun _ => σ) (fun p => p.1 ≤ l.length ∧ tysGo l m 0 = tysGo (l.drop p.1) m p.2) (fun p => l.length - p.1) (0, 0) (by simp [sub, lk]) rfl ⟨by simp, by simp⟩ ?_
 rintro ⟨i, n⟩ tm ⟨hi, hg⟩
 dsimp only at hi hg ⊢
 refine CW.hide fun R2 hR2 => CW.seqK fun K3 hK3 => CW.seqK fun K4 hK4 => CW.region ?_
 rcases Nat.lt_or_ge i l.length with hlt | hge
 · have ha := tyR_get hlt
   have hgn := tyN_get hlt
   have hsm1 := tySm_get hsm hlt
   rw [List.drop_eq_getElem_cons hlt, tysGo] at hg
   generalize l[i] = x at hgn hsm1 ha hg
   obtain ⟨fn, st, ⟨rfk, rfnm, rfng, rfdg, rfks⟩, ps, rs⟩ := x
   simp only [Ty.n] at hgn
   simp only [Ty.cs] at ha
   simp only [Ty.sm] at hsm1
   obtain ⟨_, hs_rf, hl_ps, hs_ps, hl_rs, hs_rs⟩ := hsm1
   rcases Classical.em (n ≤ m) with hnm | hnm
   · rw [if_pos hnm] at hg
     simp (maxDischargeDepth := 16) [zY, hlt, hnm]
     refine hK4 _ _ ?_
     refine CW.cond (t := true) (by simp [zT, zF, lk]) ?_
     refine CW.skip (hK3 _ _ ?_)
     refine CW.seqK fun K5 hK5 => CW.block ?_
     have fin : ∀ (n2 : Int) (fr : List (Nat × AV)) (tm : List AV), Ty.step (.mk fn st (.mk rfk rfnm rfng rfdg rfks) ps rs) m n = n2 → sub [(0, .sl (tyR l) .no), (1, intV m), (5, intV n2), (6, intV i)] fr → K5 (fm 59 fr tm) σ := by
      intro n2 fr tm e hfr
      rw [fm_sub hfr]
      refine hK5 _ _ ?_
      refine CW.region ?_
      simp (maxDischargeDepth := 16) [zY, wrapS (show i ≤ 1000000000000000 by omega)]
      exact hR2 _ _ _ ⟨(i + 1, n2), _, _, rfl, by simp [sub, lk], rfl, ⟨by show i + 1 ≤ _; omega, by rw [hg, ← e]⟩, by show l.length - (i + 1) < l.length - i; omega⟩
     refine CW.seqK fun K hK => CW.region ?_
     simp (maxDischargeDepth := 16) [zY, ha]
     refine call_sm ((.mk rfk rfnm rfng rfdg rfks), IntKind.i64.wrap (m - n)) h_TermOf trmOf2_inj (by first | (simp only [nrmR, AV.nrm, Trm.nrm, limR_nrm, trmR_nrm]; done) | (simp only [nrmR, AV.nrm, Trm.nrm, limR_nrm, trmR_nrm]; rfl)) hs_rf (by dsimp only [Trm.n]; omega) fun _ => ?_
     simp (maxDischargeDepth := 16) [zY]
     refine hK _ _ ?_; clear hK K
     generalize e2 : IntKind.i64.wrap (IntKind.i64.wrap (n + 1) + trmOf (.mk rfk rfnm rfng rfdg rfks) (IntKind.i64.wrap (m - n))) = n1
     refine CW.seqK fun K6 hK6 => ?_
     have k5 : ∀ (n3 : Int) (fr : List (Nat × AV)) (tm : List AV), gst n1 m (fun m => prmsGo ps m 0) = n3 → sub [(0, .sl (tyR l) .no), (1, intV m), (6, intV i), (5, intV n3)] fr → K6 (fm 59 fr tm) σ := by
      intro n3 fr tm e4 hfr
      rw [fm_sub hfr]
      refine hK6 _ _ ?_; clear hK6
      refine CW.seqK fun K hK => CW.region ?_
      simp (maxDischargeDepth := 16) [zY]
      refine hK _ _ ?_; clear hK K
      rcases Classical.em (n3 ≤ m) with hc11 | hc11
      · refine CW.cond (t := true) (by simp [zT, zF, lk, hc11]) ?_
        refine CW.region ?_
        simp (maxDischargeDepth := 16) [zY, ha]
        refine call_sm (rs, IntKind.i64.wrap (m - n3)) h_TypesOf tysGo_inj (by simp only [nrmR, AV.nrm, tyR_nrm]) ⟨hl_rs, hs_rs⟩ (by dsimp only; omega) fun _ => ?_
        simp (maxDischargeDepth := 16) [zY]
        exact fin (IntKind.i64.wrap (n3 + tysGo rs (IntKind.i64.wrap (m - n3)) 0)) _ _ (by show (gst (gst (IntKind.i64.wrap ((IntKind.i64.wrap (n + 1)) + trmOf (.mk rfk rfnm rfng rfdg rfks) (IntKind.i64.wrap (m - n)))) m fun m => prmsGo ps m 0) m fun m => tysGo rs m 0) = _; rw [e2, e4, gst_pos hc11]) (by simp [sub, lk])
      · refine CW.cond (t := false) (by simp [zT, zF, lk, hc11]) ?_
        exact CW.skip (fin (n3) _ _ (by show (gst (gst (IntKind.i64.wrap ((IntKind.i64.wrap (n + 1)) + trmOf (.mk rfk rfnm rfng rfdg rfks) (IntKind.i64.wrap (m - n)))) m fun m => prmsGo ps m 0) m fun m => tysGo rs m 0) = _; rw [e2, e4, gst_neg hc11]) (by simp [sub, lk]))
     refine CW.seqK fun K hK => CW.region ?_
     simp (maxDischargeDepth := 16) [zY]
     refine hK _ _ ?_; clear hK K
     rcases Classical.em (n1 ≤ m) with hc12 | hc12
     · refine CW.cond (t := true) (by simp [zT, zF, lk, hc12]) ?_
       refine CW.region ?_
       simp (maxDischargeDepth := 16) [zY, ha]
       refine call_sm (ps, IntKind.i64.wrap (m - n1)) h_ParamsOf prmsGo_inj (by simp only [nrmR, AV.nrm, prmR_nrm]) ⟨hl_ps, hs_ps⟩ (by dsimp only; omega) fun _ => ?_
       simp (maxDischargeDepth := 16) [zY]
       exact k5 (IntKind.i64.wrap (n1 + prmsGo ps (IntKind.i64.wrap (m - n1)) 0)) _ _ (gst_pos hc12) (by simp [sub, lk])
     · refine CW.cond (t := false) (by simp [zT, zF, lk, hc12]) ?_
       exact CW.skip (k5 (n1) _ _ (gst_neg hc12) (by simp [sub, lk]))
   · rw [if_neg hnm] at hg
     simp (maxDischargeDepth := 16) [zY, hlt, hnm, Int.not_le.1 hnm]
     refine hK4 _ _ ?_
     refine CW.cond (t := false) (by simp [zT, zF, lk]) ?_
     refine CW.exit (hR2 _ _ _ (hR _ _ _ ?_))
     simp only [outOf, if_true, andThen]
     exact outk _ _ _ hg (by simp [sub, lk])
 · obtain rfl : i = l.length := by omega
   rw [List.drop_length, tysGo] at hg
   simp (maxDischargeDepth := 16) [zY]
   refine hK4 _ _ ?_
   refine CW.cond (t := false) (by simp [zT, zF, lk]) ?_
   refine CW.exit (hR2 _ _ _ (hR _ _ _ ?_))
   simp only [outOf, if_true, andThen]
   exact outk _ _ _ hg (by simp [sub, lk])
theorem ParamsOf_w (hc : S.code = codeP Tryz.prog) (hm : S.ms 52 = []) (h_TypesOf : S.sp 53 = some tysGoF) : SmOk Tryz.prog S N 52 (fun p : List Prm × Int => [.sl (prmR p.1) .no, intV p.2]) (fun p => intV (prmsGo p.1 p.2 0)) (fun p => p.1.length ≤ 140737488355328 ∧ prmSm p.1) (fun p => prmN p.1) 6 := by
 rintro ⟨l, m⟩ σ ⟨hll, hsm⟩ hN
 refine JC.startF (fn := Tryz.f52) (codeOf hc Tryz.func52 rfl (by kernel_rfl)) rfl hm rfl (zL rfl) fun tm => ?_
 refine CW.hide fun R0 hR0 => ?_
 dsimp only at hll hsm hN ⊢
 refine CW.seqK fun K hK => CW.region ?_
 simp (maxDischargeDepth := 16) [zY]
 refine hK _ _ ?_; clear hK K
 refine CW.seqK fun K hK => CW.region ?_
 simp (maxDischargeDepth := 16) [zY]
 refine hK _ _ ?_; clear hK K
 refine CW.seqK fun K hK => ?_
 have outk : ∀ (n2 : Int) (fr : List (Nat × AV)) (tm : List AV), prmsGo l m 0 = n2 → sub [(5, intV n2)] fr → K (fm 32 fr tm) σ := by
  intro n2 fr tm e hfr
  rw [fm_sub hfr]
  refine hK _ _ ?_
  refine CW.seqK fun K hK => CW.region ?_
  simp (maxDischargeDepth := 16) [zY]
  refine hK _ _ ?_; clear hK K
  exact CW.ret (hR0 _ _ _ ⟨intV n2, by simp [zA, omap, zB, zF, lk], by show Fgt _ _ _ (.ret (intV (prmsGo l m 0))) _; rw [e]; exact done0 rfl rfl⟩)
 refine CW.seqK fun K hK => CW.region ?_
 simp (maxDischargeDepth := 16) [zY]
 refine hK _ _ ?_; clear hK K
 refine CW.block (CW.hide fun R hR => ?_)
 refine CW.loopF (fun p : Nat × Int => [(0, .sl (prmR l) .no), (1, intV m), (5, intV p.2), (6, intV p.1)]) (fun _ => σ) (fun p => p.1 ≤ l.length ∧ prmsGo l m 0 = prmsGo (l.drop p.1) m p.2) (fun p => l.length - p.1) (0, 0) (by simp [sub, lk]) rfl ⟨by simp, by simp⟩ ?_
 rintro ⟨i, n⟩ tm ⟨hi, hg⟩
 dsimp only at hi hg ⊢
 refine CW.hide fun R2 hR2 => CW.seqK fun K3 hK3 => CW.seqK fun K4 hK4 => CW.region ?_
 rcases Nat.lt_or_ge i l.length with hlt | hge
 · have ha := prmR_get hlt
   have hgn := prmN_get hlt
   have hsm1 := prmSm_get hsm hlt
   rw [List.drop_eq_getElem_cons hlt, prmsGo] at hg
   generalize l[i] = x at hgn hsm1 ha hg
   obtain ⟨nm, ⟨tyfn, tyst, ⟨tyrfk, tyrfnm, tyrfng, tyrfdg, tyrfks⟩, typs, tyrs⟩⟩ := x
   simp only [Prm.n] at hgn
   simp only [Prm.cs] at ha
   simp only [Prm.sm] at hsm1
   obtain ⟨_, hs_ty⟩ := hsm1
   rcases Classical.em (n ≤ m) with hnm | hnm
   · rw [if_pos hnm] at hg
     simp (maxDischargeDepth := 16) [zY, hlt, hnm]
     refine hK4 _ _ ?_
     refine CW.cond (t := true) (by simp [zT, zF, lk]) ?_
     refine CW.skip (hK3 _ _ ?_)
     refine CW.seqK fun K5 hK5 => CW.block ?_
     have fin : ∀ (n2 : Int) (fr : List (Nat × AV)) (tm : List AV), Prm.step (.mk nm (.mk tyfn tyst (.mk tyrfk tyrfnm tyrfng tyrfdg tyrfks) typs tyrs)) m n = n2 → sub [(0, .sl (prmR l) .no), (1, intV m), (5, intV n2), (6, intV i)] fr → K5 (fm 32 fr tm) σ := by
      intro n2 fr tm e hfr
      rw [fm_sub hfr]
      refine hK5 _ _ ?_
      refine CW.region ?_
      simp (maxDischargeDepth := 16) [zY, wrapS (show i ≤ 1000000000000000 by omega)]
      exact hR2 _ _ _ ⟨(i + 1, n2), _, _, rfl, by simp [sub, lk], rfl, ⟨by show i + 1 ≤ _; omega, by rw [hg, ← e]⟩, by show l.length - (i + 1) < l.length - i; omega⟩
     refine CW.region ?_
     simp (maxDischargeDepth := 16) [zY, ha]
     refine call_sm ([.mk tyfn tyst (.mk tyrfk tyrfnm tyrfng tyrfdg tyrfks) typs tyrs], IntKind.i64.wrap (m - n)) h_TypesOf tysGo_inj (by simp only [nrmR, nrmRR, AV.nrm, limR_nrm, trmR_nrm, prmR_nrm, tyR_nrm]; rfl) ⟨by simp, hs_ty, trivial⟩ (by dsimp only [tyN, Ty.n]; omega) fun _ => ?_
     simp (maxDischargeDepth := 16) [zY]
     exact fin (IntKind.i64.wrap (IntKind.i64.wrap (n + 1) + tysGo [.mk tyfn tyst (.mk tyrfk tyrfnm tyrfng tyrfdg tyrfks) typs tyrs] (IntKind.i64.wrap (m - n)) 0)) _ _ (by simp [Prm.step, tysGo]) (by simp [sub, lk])
   · rw [if_neg hnm] at hg
     simp (maxDischargeDepth := 16) [zY, hlt, hnm, Int.not_le.1 hnm]
     refine hK4 _ _ ?_
     refine CW.cond (t := false) (by simp [zT, zF, lk]) ?_
     refine CW.exit (hR2 _ _ _ (hR _ _ _ ?_))
     simp only [outOf, if_true, andThen]
     exact outk _ _ _ hg (by simp [sub, lk])
 · obtain rfl : i = l.length := by omega
   rw [List.drop_length, prmsGo] at hg
   simp (maxDischargeDepth := 16) [zY]
   refine hK4 _ _ ?_
   refine CW.cond (t := false) (by simp [zT, zF, lk]) ?_
   refine CW.exit (hR2 _ _ _ (hR _ _ _ ?_))
   simp only [outOf, if_true, andThen]
   exact outk _ _ _ hg (by simp [sub, lk])
theorem RhssOf_w (hc : S.code = codeP Tryz.prog) (hm : S.ms 87 = []) (h_ExprsOf : S.sp 54 = some expsGoF) (h_ParamsOf : S.sp 52 = some prmsGoF) (h_TermsOf : S.sp 86 = some trmsGoF) (h_TypesOf : S.sp 53 = some tysGoF) : SmOk Tryz.prog S N 87 (fun p : List Rhs × Int => [.sl (rhsR p.1) .no, intV p.2]) (fun p => intV (rhssGo p.1 p.2 0)) (fun p => p.1.length ≤ 140737488355328 ∧ rhsSm p.1) (fun p => rhsN p.1) 7 := by
 rintro ⟨l, m⟩ σ ⟨hll, hsm⟩ hN
 refine JC.startF (fn := Tryz.f87) (codeOf hc Tryz.func87 rfl (by kernel_rfl)) rfl hm rfl (zL rfl) fun tm => ?_
 refine CW.hide fun R0 hR0 => ?_
 dsimp only at hll hsm hN ⊢
 refine CW.seqK fun K hK => CW.region ?_
 simp (maxDischargeDepth := 16) [zY]
 refine hK _ _ ?_; clear hK K
 refine CW.seqK fun K hK => CW.region ?_
 simp (maxDischargeDepth := 16) [zY]
 refine hK _ _ ?_; clear hK K
 refine CW.seqK fun K hK => ?_
 have outk : ∀ (n2 : Int) (fr : List (Nat × AV)) (tm : List AV), rhssGo l m 0 = n2 → sub [(5, intV n2)] fr → K (fm 113 fr tm) σ := by
  intro n2 fr tm e hfr
  rw [fm_sub hfr]
  refine hK _ _ ?_
  refine CW.seqK fun K hK => CW.region ?_
  simp (maxDischargeDepth := 16) [zY]
  refine hK _ _ ?_; clear hK K
  exact CW.ret (hR0 _ _ _ ⟨intV n2, by simp [zA, omap, zB, zF, lk], by show Fgt _ _ _ (.ret (intV (rhssGo l m 0))) _; rw [e]; exact done0 rfl rfl⟩)
 refine CW.seqK fun K hK => CW.region ?_
 simp (maxDischargeDepth := 16) [zY]
 refine hK _ _ ?_; clear hK K
 refine CW.block (CW.hide fun R hR => ?_)
 refine CW.loopF (fun p : Nat × Int => [(0, .sl (rhsR l) .no), (1, intV m), (5, intV p.2), (6, intV p.1)]) (fun _ => σ) (fun p => p.1 ≤ l.length ∧ rhssGo l m 0 = rhssGo (l.drop p.1) m p.2) (fun p => l.length - p.1) (0, 0) (by simp [sub, lk]) rfl ⟨by simp, by simp⟩ ?_
 rintro ⟨i, n⟩ tm ⟨hi, hg⟩
 dsimp only at hi hg ⊢
 refine CW.hide fun R2 hR2 => CW.seqK fun K3 hK3 => CW.seqK fun K4 hK4 => CW.region ?_
 rcases Nat.lt_or_ge i l.length with hlt | hge
 · have ha := rhsR_get hlt
   have hgn := rhsN_get hlt
   have hsm1 := rhsSm_get hsm hlt
   rw [List.drop_eq_getElem_cons hlt, rhssGo] at hg
   generalize l[i] = x at hgn hsm1 ha hg
   obtain ⟨k, nm, ats, ps, rs, bd, ts⟩ := x
   simp only [Rhs.n] at hgn
   simp only [Rhs.cs] at ha
   simp only [Rhs.sm] at hsm1
   obtain ⟨_, hl_ats, hs_ats, hl_ps, hs_ps, hl_rs, hs_rs, hl_bd, hs_bd, hl_ts, hs_ts⟩ := hsm1
   rcases Classical.em (n ≤ m) with hnm | hnm
   · rw [if_pos hnm] at hg
     simp (maxDischargeDepth := 16) [zY, hlt, hnm]
     refine hK4 _ _ ?_
     refine CW.cond (t := true) (by simp [zT, zF, lk]) ?_
     refine CW.skip (hK3 _ _ ?_)
     refine CW.seqK fun K5 hK5 => CW.block ?_
     have fin : ∀ (n2 : Int) (fr : List (Nat × AV)) (tm : List AV), Rhs.step (.mk k nm ats ps rs bd ts) m n = n2 → sub [(0, .sl (rhsR l) .no), (1, intV m), (5, intV n2), (6, intV i)] fr → K5 (fm 113 fr tm) σ := by
      intro n2 fr tm e hfr
      rw [fm_sub hfr]
      refine hK5 _ _ ?_
      refine CW.region ?_
      simp (maxDischargeDepth := 16) [zY, wrapS (show i ≤ 1000000000000000 by omega)]
      exact hR2 _ _ _ ⟨(i + 1, n2), _, _, rfl, by simp [sub, lk], rfl, ⟨by show i + 1 ≤ _; omega, by rw [hg, ← e]⟩, by show l.length - (i + 1) < l.length - i; omega⟩
     refine CW.seqK fun K hK => CW.region ?_
     simp (maxDischargeDepth := 16) [zY, ha]
     refine hK _ _ ?_; clear hK K
     generalize e14 : IntKind.i64.wrap (IntKind.i64.wrap (n + 1) + ats.length) = n13
     refine CW.seqK fun K16 hK16 => ?_
     have k15 : ∀ (n17 : Int) (fr : List (Nat × AV)) (tm : List AV), atmGo ats m n13 = n17 → sub [(0, .sl (rhsR l) .no), (1, intV m), (6, intV i), (5, intV n17)] fr → K16 (fm 113 fr tm) σ := by
      intro n17 fr tm e18 hfr
      rw [fm_sub hfr]
      refine hK16 _ _ ?_; clear hK16
      refine CW.seqK fun K22 hK22 => ?_
      have k21 : ∀ (n19 : Int) (fr : List (Nat × AV)) (tm : List AV), gst n17 m (fun m => prmsGo ps m 0) = n19 → sub [(0, .sl (rhsR l) .no), (1, intV m), (6, intV i), (5, intV n19)] fr → K22 (fm 113 fr tm) σ := by
       intro n19 fr tm e20 hfr
       rw [fm_sub hfr]
       refine hK22 _ _ ?_; clear hK22
       refine CW.seqK fun K26 hK26 => ?_
       have k25 : ∀ (n23 : Int) (fr : List (Nat × AV)) (tm : List AV), gst n19 m (fun m => tysGo rs m 0) = n23 → sub [(0, .sl (rhsR l) .no), (1, intV m), (6, intV i), (5, intV n23)] fr → K26 (fm 113 fr tm) σ := by
        intro n23 fr tm e24 hfr
        rw [fm_sub hfr]
        refine hK26 _ _ ?_; clear hK26
        refine CW.seqK fun K30 hK30 => ?_
        have k29 : ∀ (n27 : Int) (fr : List (Nat × AV)) (tm : List AV), gst n23 m (fun m => expsGo bd m 0) = n27 → sub [(0, .sl (rhsR l) .no), (1, intV m), (6, intV i), (5, intV n27)] fr → K30 (fm 113 fr tm) σ := by
         intro n27 fr tm e28 hfr
         rw [fm_sub hfr]
         refine hK30 _ _ ?_; clear hK30
         refine CW.seqK fun K hK => CW.region ?_
         simp (maxDischargeDepth := 16) [zY]
         refine hK _ _ ?_; clear hK K
         rcases Classical.em (n27 ≤ m) with hc35 | hc35
         · refine CW.cond (t := true) (by simp [zT, zF, lk, hc35]) ?_
           refine CW.region ?_
           simp (maxDischargeDepth := 16) [zY, ha]
           refine call_sm (ts, IntKind.i64.wrap (m - n27)) h_TermsOf trmsGo_inj (by simp only [nrmR, AV.nrm, trmR_nrm]) ⟨hl_ts, hs_ts⟩ (by dsimp only; omega) fun _ => ?_
           simp (maxDischargeDepth := 16) [zY]
           exact fin (IntKind.i64.wrap (n27 + trmsGo ts (IntKind.i64.wrap (m - n27)) 0)) _ _ (by show (gst (gst (gst (gst (atmGo ats m (IntKind.i64.wrap ((IntKind.i64.wrap (n + 1)) + ats.length))) m fun m => prmsGo ps m 0) m fun m => tysGo rs m 0) m fun m => expsGo bd m 0) m fun m => trmsGo ts m 0) = _; rw [e14, e18, e20, e24, e28, gst_pos hc35]) (by simp [sub, lk])
         · refine CW.cond (t := false) (by simp [zT, zF, lk, hc35]) ?_
           exact CW.skip (fin (n27) _ _ (by show (gst (gst (gst (gst (atmGo ats m (IntKind.i64.wrap ((IntKind.i64.wrap (n + 1)) + ats.length))) m fun m => prmsGo ps m 0) m fun m => tysGo rs m 0) m fun m => expsGo bd m 0) m fun m => trmsGo ts m 0) = _; rw [e14, e18, e20, e24, e28, gst_neg hc35]) (by simp [sub, lk]))
        refine CW.seqK fun K hK => CW.region ?_
        simp (maxDischargeDepth := 16) [zY]
        refine hK _ _ ?_; clear hK K
        rcases Classical.em (n23 ≤ m) with hc36 | hc36
        · refine CW.cond (t := true) (by simp [zT, zF, lk, hc36]) ?_
          refine CW.region ?_
          simp (maxDischargeDepth := 16) [zY, ha]
          refine call_sm (bd, IntKind.i64.wrap (m - n23)) h_ExprsOf expsGo_inj (by simp only [nrmR, AV.nrm, expR_nrm]) ⟨hl_bd, hs_bd⟩ (by dsimp only; omega) fun _ => ?_
          simp (maxDischargeDepth := 16) [zY]
          exact k29 (IntKind.i64.wrap (n23 + expsGo bd (IntKind.i64.wrap (m - n23)) 0)) _ _ (gst_pos hc36) (by simp [sub, lk])
        · refine CW.cond (t := false) (by simp [zT, zF, lk, hc36]) ?_
          exact CW.skip (k29 (n23) _ _ (gst_neg hc36) (by simp [sub, lk]))
       refine CW.seqK fun K hK => CW.region ?_
       simp (maxDischargeDepth := 16) [zY]
       refine hK _ _ ?_; clear hK K
       rcases Classical.em (n19 ≤ m) with hc37 | hc37
       · refine CW.cond (t := true) (by simp [zT, zF, lk, hc37]) ?_
         refine CW.region ?_
         simp (maxDischargeDepth := 16) [zY, ha]
         refine call_sm (rs, IntKind.i64.wrap (m - n19)) h_TypesOf tysGo_inj (by simp only [nrmR, AV.nrm, tyR_nrm]) ⟨hl_rs, hs_rs⟩ (by dsimp only; omega) fun _ => ?_
         simp (maxDischargeDepth := 16) [zY]
         exact k25 (IntKind.i64.wrap (n19 + tysGo rs (IntKind.i64.wrap (m - n19)) 0)) _ _ (gst_pos hc37) (by simp [sub, lk])
       · refine CW.cond (t := false) (by simp [zT, zF, lk, hc37]) ?_
         exact CW.skip (k25 (n19) _ _ (gst_neg hc37) (by simp [sub, lk]))
      refine CW.seqK fun K hK => CW.region ?_
      simp (maxDischargeDepth := 16) [zY]
      refine hK _ _ ?_; clear hK K
      rcases Classical.em (n17 ≤ m) with hc38 | hc38
      · refine CW.cond (t := true) (by simp [zT, zF, lk, hc38]) ?_
        refine CW.region ?_
        simp (maxDischargeDepth := 16) [zY, ha]
        refine call_sm (ps, IntKind.i64.wrap (m - n17)) h_ParamsOf prmsGo_inj (by simp only [nrmR, AV.nrm, prmR_nrm]) ⟨hl_ps, hs_ps⟩ (by dsimp only; omega) fun _ => ?_
        simp (maxDischargeDepth := 16) [zY]
        exact k21 (IntKind.i64.wrap (n17 + prmsGo ps (IntKind.i64.wrap (m - n17)) 0)) _ _ (gst_pos hc38) (by simp [sub, lk])
      · refine CW.cond (t := false) (by simp [zT, zF, lk, hc38]) ?_
        exact CW.skip (k21 (n17) _ _ (gst_neg hc38) (by simp [sub, lk]))
     refine CW.seqK fun K hK => CW.region ?_
     simp (maxDischargeDepth := 16) [zY]
     refine hK _ _ ?_; clear hK K
     refine CW.block (CW.hide fun RI hRI => ?_)
     refine CW.loopF (fun p : Nat × Int => [(0, .sl (rhsR l) .no), (1, intV m), (6, intV i), (5, intV p.2), (7, intV p.1)]) (fun _ => σ) (fun p => p.1 ≤ ats.length ∧ atmGo ats m n13 = atmGo (ats.drop p.1) m p.2) (fun p => ats.length - p.1) (0, n13) (by simp [sub, lk]) rfl ⟨by simp, by simp⟩ ?_
     rintro ⟨q, u⟩ tm ⟨hq, hgq⟩
     dsimp only at hq hgq ⊢
     refine CW.hide fun R2I hR2I => CW.seqK fun K3I hK3I => CW.seqK fun K4I hK4I => CW.region ?_
     rcases Nat.lt_or_ge q ats.length with hltI | hgeI
     · have haI := atmR_get hltI
       have hgnI := atmN_get hltI
       have hsm1I := atmSm_get hs_ats hltI
       rw [List.drop_eq_getElem_cons hltI, atmGo] at hgq
       generalize ats[q] = xI at hgnI hsm1I haI hgq
       obtain ⟨yk, ynm, yng, ydg, ytr⟩ := xI
       simp only [Atm.n] at hgnI
       simp only [Atm.cs] at haI
       simp only [Atm.sm] at hsm1I
       obtain ⟨_, hl_ydg⟩ := hsm1I
       rcases Classical.em (u ≤ m) with hnmI | hnmI
       · rw [if_pos hnmI] at hgq
         simp (maxDischargeDepth := 16) [zY, hltI, hnmI, ha]
         refine hK4I _ _ ?_
         refine CW.cond (t := true) (by simp [zT, zF, lk]) ?_
         refine CW.skip (hK3I _ _ ?_)
         refine CW.seqK fun K5I hK5I => CW.block ?_
         have finI : ∀ (n2 : Int) (fr : List (Nat × AV)) (tm : List AV), Atm.step (.mk yk ynm yng ydg ytr) m u = n2 → sub [(0, .sl (rhsR l) .no), (1, intV m), (6, intV i), (5, intV n2), (7, intV q)] fr → K5I (fm 113 fr tm) σ := by
          intro n2 fr tm e hfr
          rw [fm_sub hfr]
          refine hK5I _ _ ?_
          refine CW.region ?_
          simp (maxDischargeDepth := 16) [zY, wrapS (show q ≤ 1000000000000000 by omega)]
          exact hR2I _ _ _ ⟨(q + 1, n2), _, _, rfl, by simp [sub, lk], rfl, ⟨by show q + 1 ≤ _; omega, by rw [hgq, ← e]⟩, by show ats.length - (q + 1) < ats.length - q; omega⟩
         refine CW.region ?_
         simp (maxDischargeDepth := 16) [zY, ha, haI]
         exact finI (IntKind.i64.wrap (u + ydg.length)) _ _ (by show (IntKind.i64.wrap (u + ydg.length)) = _; rfl) (by simp [sub, lk])
       · rw [if_neg hnmI] at hgq
         simp (maxDischargeDepth := 16) [zY, hltI, hnmI, ha, Int.not_le.1 hnmI]
         refine hK4I _ _ ?_
         refine CW.cond (t := false) (by simp [zT, zF, lk]) ?_
         refine CW.exit (hR2I _ _ _ (hRI _ _ _ ?_))
         simp only [outOf, if_true, andThen]
         exact k15 _ _ _ hgq (by simp [sub, lk])
     · obtain rfl : q = ats.length := by omega
       rw [List.drop_length, atmGo] at hgq
       simp (maxDischargeDepth := 16) [zY, ha]
       refine hK4I _ _ ?_
       refine CW.cond (t := false) (by simp [zT, zF, lk]) ?_
       refine CW.exit (hR2I _ _ _ (hRI _ _ _ ?_))
       simp only [outOf, if_true, andThen]
       exact k15 _ _ _ hgq (by simp [sub, lk])
   · rw [if_neg hnm] at hg
     simp (maxDischargeDepth := 16) [zY, hlt, hnm, Int.not_le.1 hnm]
     refine hK4 _ _ ?_
     refine CW.cond (t := false) (by simp [zT, zF, lk]) ?_
     refine CW.exit (hR2 _ _ _ (hR _ _ _ ?_))
     simp only [outOf, if_true, andThen]
     exact outk _ _ _ hg (by simp [sub, lk])
 · obtain rfl : i = l.length := by omega
   rw [List.drop_length, rhssGo] at hg
   simp (maxDischargeDepth := 16) [zY]
   refine hK4 _ _ ?_
   refine CW.cond (t := false) (by simp [zT, zF, lk]) ?_
   refine CW.exit (hR2 _ _ _ (hR _ _ _ ?_))
   simp only [outOf, if_true, andThen]
   exact outk _ _ _ hg (by simp [sub, lk])
theorem ExprsOf_w (hc : S.code = codeP Tryz.prog) (hm : S.ms 54 = []) (h_ExprsOf : S.sp 54 = some expsGoF) (h_RhssOf : S.sp 87 = some rhssGoF) (h_TypesOf : S.sp 53 = some tysGoF) : SmOk Tryz.prog S N 54 (fun p : List Exp × Int => [.sl (expR p.1) .no, intV p.2]) (fun p => intV (expsGo p.1 p.2 0)) (fun p => p.1.length ≤ 140737488355328 ∧ expSm p.1) (fun p => expN p.1) 7 := by
 rintro ⟨l, m⟩ σ ⟨hll, hsm⟩ hN
 refine JC.startF (fn := Tryz.f54) (codeOf hc Tryz.func54 rfl (by kernel_rfl)) rfl hm rfl (zL rfl) fun tm => ?_
 refine CW.hide fun R0 hR0 => ?_
 dsimp only at hll hsm hN ⊢
 refine CW.seqK fun K hK => CW.region ?_
 simp (maxDischargeDepth := 16) [zY]
 refine hK _ _ ?_; clear hK K
 refine CW.seqK fun K hK => CW.region ?_
 simp (maxDischargeDepth := 16) [zY]
 refine hK _ _ ?_; clear hK K
 refine CW.seqK fun K hK => ?_
 have outk : ∀ (n2 : Int) (fr : List (Nat × AV)) (tm : List AV), expsGo l m 0 = n2 → sub [(5, intV n2)] fr → K (fm 119 fr tm) σ := by
  intro n2 fr tm e hfr
  rw [fm_sub hfr]
  refine hK _ _ ?_
  refine CW.seqK fun K hK => CW.region ?_
  simp (maxDischargeDepth := 16) [zY]
  refine hK _ _ ?_; clear hK K
  exact CW.ret (hR0 _ _ _ ⟨intV n2, by simp [zA, omap, zB, zF, lk], by show Fgt _ _ _ (.ret (intV (expsGo l m 0))) _; rw [e]; exact done0 rfl rfl⟩)
 refine CW.seqK fun K hK => CW.region ?_
 simp (maxDischargeDepth := 16) [zY]
 refine hK _ _ ?_; clear hK K
 refine CW.block (CW.hide fun R hR => ?_)
 refine CW.loopF (fun p : Nat × Int => [(0, .sl (expR l) .no), (1, intV m), (5, intV p.2), (6, intV p.1)]) (fun _ => σ) (fun p => p.1 ≤ l.length ∧ expsGo l m 0 = expsGo (l.drop p.1) m p.2) (fun p => l.length - p.1) (0, 0) (by simp [sub, lk]) rfl ⟨by simp, by simp⟩ ?_
 rintro ⟨i, n⟩ tm ⟨hi, hg⟩
 dsimp only at hi hg ⊢
 refine CW.hide fun R2 hR2 => CW.seqK fun K3 hK3 => CW.seqK fun K4 hK4 => CW.region ?_
 rcases Nat.lt_or_ge i l.length with hlt | hge
 · have ha := expR_get hlt
   have hgn := expN_get hlt
   have hsm1 := expSm_get hsm hlt
   rw [List.drop_eq_getElem_cons hlt, expsGo] at hg
   generalize l[i] = x at hgn hsm1 ha hg
   obtain ⟨k, nm, ty, rh, ⟨amk, amnm, amng, amdg, amtr⟩, ar, bd⟩ := x
   simp only [Exp.n] at hgn
   simp only [Exp.cs] at ha
   simp only [Exp.sm] at hsm1
   obtain ⟨_, hl_ty, hs_ty, hl_rh, hs_rh, hs_am, hl_ar, hs_ar, hl_bd, hs_bd⟩ := hsm1
   rcases Classical.em (n ≤ m) with hnm | hnm
   · rw [if_pos hnm] at hg
     simp (maxDischargeDepth := 16) [zY, hlt, hnm]
     refine hK4 _ _ ?_
     refine CW.cond (t := true) (by simp [zT, zF, lk]) ?_
     refine CW.skip (hK3 _ _ ?_)
     refine CW.seqK fun K5 hK5 => CW.block ?_
     have fin : ∀ (n2 : Int) (fr : List (Nat × AV)) (tm : List AV), Exp.step (.mk k nm ty rh (.mk amk amnm amng amdg amtr) ar bd) m n = n2 → sub [(0, .sl (expR l) .no), (1, intV m), (5, intV n2), (6, intV i)] fr → K5 (fm 119 fr tm) σ := by
      intro n2 fr tm e hfr
      rw [fm_sub hfr]
      refine hK5 _ _ ?_
      refine CW.region ?_
      simp (maxDischargeDepth := 16) [zY, wrapS (show i ≤ 1000000000000000 by omega)]
      exact hR2 _ _ _ ⟨(i + 1, n2), _, _, rfl, by simp [sub, lk], rfl, ⟨by show i + 1 ≤ _; omega, by rw [hg, ← e]⟩, by show l.length - (i + 1) < l.length - i; omega⟩
     refine CW.seqK fun K hK => CW.region ?_
     simp (maxDischargeDepth := 16) [zY, ha]
     refine hK _ _ ?_; clear hK K
     generalize e40 : IntKind.i64.wrap (IntKind.i64.wrap (n + 1) + amdg.length) = n39
     refine CW.seqK fun K44 hK44 => ?_
     have k43 : ∀ (n41 : Int) (fr : List (Nat × AV)) (tm : List AV), gst n39 m (fun m => tysGo ty m 0) = n41 → sub [(0, .sl (expR l) .no), (1, intV m), (6, intV i), (5, intV n41)] fr → K44 (fm 119 fr tm) σ := by
      intro n41 fr tm e42 hfr
      rw [fm_sub hfr]
      refine hK44 _ _ ?_; clear hK44
      refine CW.seqK fun K48 hK48 => ?_
      have k47 : ∀ (n45 : Int) (fr : List (Nat × AV)) (tm : List AV), gst n41 m (fun m => rhssGo rh m 0) = n45 → sub [(0, .sl (expR l) .no), (1, intV m), (6, intV i), (5, intV n45)] fr → K48 (fm 119 fr tm) σ := by
       intro n45 fr tm e46 hfr
       rw [fm_sub hfr]
       refine hK48 _ _ ?_; clear hK48
       refine CW.seqK fun K50 hK50 => ?_
       have k49 : ∀ (n51 : Int) (fr : List (Nat × AV)) (tm : List AV), armGo ar m n45 = n51 → sub [(0, .sl (expR l) .no), (1, intV m), (6, intV i), (5, intV n51)] fr → K50 (fm 119 fr tm) σ := by
        intro n51 fr tm e52 hfr
        rw [fm_sub hfr]
        refine hK50 _ _ ?_; clear hK50
        refine CW.seqK fun K hK => CW.region ?_
        simp (maxDischargeDepth := 16) [zY]
        refine hK _ _ ?_; clear hK K
        rcases Classical.em (n51 ≤ m) with hc57 | hc57
        · refine CW.cond (t := true) (by simp [zT, zF, lk, hc57]) ?_
          refine CW.region ?_
          simp (maxDischargeDepth := 16) [zY, ha]
          refine call_sm (bd, IntKind.i64.wrap (m - n51)) h_ExprsOf expsGo_inj (by simp only [nrmR, AV.nrm, expR_nrm]) ⟨hl_bd, hs_bd⟩ (by dsimp only; omega) fun _ => ?_
          simp (maxDischargeDepth := 16) [zY]
          exact fin (IntKind.i64.wrap (n51 + expsGo bd (IntKind.i64.wrap (m - n51)) 0)) _ _ (by show (gst (armGo ar m (gst (gst (IntKind.i64.wrap ((IntKind.i64.wrap (n + 1)) + amdg.length)) m fun m => tysGo ty m 0) m fun m => rhssGo rh m 0)) m fun m => expsGo bd m 0) = _; rw [e40, e42, e46, e52, gst_pos hc57]) (by simp [sub, lk])
        · refine CW.cond (t := false) (by simp [zT, zF, lk, hc57]) ?_
          exact CW.skip (fin (n51) _ _ (by show (gst (armGo ar m (gst (gst (IntKind.i64.wrap ((IntKind.i64.wrap (n + 1)) + amdg.length)) m fun m => tysGo ty m 0) m fun m => rhssGo rh m 0)) m fun m => expsGo bd m 0) = _; rw [e40, e42, e46, e52, gst_neg hc57]) (by simp [sub, lk]))
       refine CW.seqK fun K hK => CW.region ?_
       simp (maxDischargeDepth := 16) [zY]
       refine hK _ _ ?_; clear hK K
       refine CW.block (CW.hide fun RI hRI => ?_)
       refine CW.loopF (fun p : Nat × Int => [(0, .sl (expR l) .no), (1, intV m), (6, intV i), (5, intV p.2), (7, intV p.1)]) (fun _ => σ) (fun p => p.1 ≤ ar.length ∧ armGo ar m n45 = armGo (ar.drop p.1) m p.2) (fun p => ar.length - p.1) (0, n45) (by simp [sub, lk]) rfl ⟨by simp, by simp⟩ ?_
       rintro ⟨q, u⟩ tm ⟨hq, hgq⟩
       dsimp only at hq hgq ⊢
       refine CW.hide fun R2I hR2I => CW.seqK fun K3I hK3I => CW.seqK fun K4I hK4I => CW.region ?_
       rcases Nat.lt_or_ge q ar.length with hltI | hgeI
       · have haI := armR_get hltI
         have hgnI := armN_get hltI
         have hsm1I := armSm_get hs_ar hltI
         rw [List.drop_eq_getElem_cons hltI, armGo] at hgq
         generalize ar[q] = xI at hgnI hsm1I haI hgq
         obtain ⟨ycn, yns, ybd⟩ := xI
         simp only [Arm.n] at hgnI
         simp only [Arm.cs] at haI
         simp only [Arm.sm] at hsm1I
         obtain ⟨_, hl_yns, hl_ybd, hs_ybd⟩ := hsm1I
         rcases Classical.em (u ≤ m) with hnmI | hnmI
         · rw [if_pos hnmI] at hgq
           simp (maxDischargeDepth := 16) [zY, hltI, hnmI, ha]
           refine hK4I _ _ ?_
           refine CW.cond (t := true) (by simp [zT, zF, lk]) ?_
           refine CW.skip (hK3I _ _ ?_)
           refine CW.seqK fun K5I hK5I => CW.block ?_
           have finI : ∀ (n2 : Int) (fr : List (Nat × AV)) (tm : List AV), Arm.step (.mk ycn yns ybd) m u = n2 → sub [(0, .sl (expR l) .no), (1, intV m), (6, intV i), (5, intV n2), (7, intV q)] fr → K5I (fm 119 fr tm) σ := by
            intro n2 fr tm e hfr
            rw [fm_sub hfr]
            refine hK5I _ _ ?_
            refine CW.region ?_
            simp (maxDischargeDepth := 16) [zY, wrapS (show q ≤ 1000000000000000 by omega)]
            exact hR2I _ _ _ ⟨(q + 1, n2), _, _, rfl, by simp [sub, lk], rfl, ⟨by show q + 1 ≤ _; omega, by rw [hgq, ← e]⟩, by show ar.length - (q + 1) < ar.length - q; omega⟩
           refine CW.seqK fun K hK => CW.region ?_
           simp (maxDischargeDepth := 16) [zY, ha, haI]
           refine hK _ _ ?_; clear hK K
           generalize e59 : IntKind.i64.wrap (IntKind.i64.wrap (u + 1) + yns.length) = n58
           refine CW.seqK fun K hK => CW.region ?_
           simp (maxDischargeDepth := 16) [zY]
           refine hK _ _ ?_; clear hK K
           rcases Classical.em (n58 ≤ m) with hc64 | hc64
           · refine CW.cond (t := true) (by simp [zT, zF, lk, hc64]) ?_
             refine CW.region ?_
             simp (maxDischargeDepth := 16) [zY, ha, haI]
             refine call_sm (ybd, IntKind.i64.wrap (m - n58)) h_ExprsOf expsGo_inj (by simp only [nrmR, AV.nrm, expR_nrm]) ⟨hl_ybd, hs_ybd⟩ (by dsimp only; omega) fun _ => ?_
             simp (maxDischargeDepth := 16) [zY]
             exact finI (IntKind.i64.wrap (n58 + expsGo ybd (IntKind.i64.wrap (m - n58)) 0)) _ _ (by show (gst (IntKind.i64.wrap ((IntKind.i64.wrap (u + 1)) + yns.length)) m fun m => expsGo ybd m 0) = _; rw [e59, gst_pos hc64]) (by simp [sub, lk])
           · refine CW.cond (t := false) (by simp [zT, zF, lk, hc64]) ?_
             exact CW.skip (finI (n58) _ _ (by show (gst (IntKind.i64.wrap ((IntKind.i64.wrap (u + 1)) + yns.length)) m fun m => expsGo ybd m 0) = _; rw [e59, gst_neg hc64]) (by simp [sub, lk]))
         · rw [if_neg hnmI] at hgq
           simp (maxDischargeDepth := 16) [zY, hltI, hnmI, ha, Int.not_le.1 hnmI]
           refine hK4I _ _ ?_
           refine CW.cond (t := false) (by simp [zT, zF, lk]) ?_
           refine CW.exit (hR2I _ _ _ (hRI _ _ _ ?_))
           simp only [outOf, if_true, andThen]
           exact k49 _ _ _ hgq (by simp [sub, lk])
       · obtain rfl : q = ar.length := by omega
         rw [List.drop_length, armGo] at hgq
         simp (maxDischargeDepth := 16) [zY, ha]
         refine hK4I _ _ ?_
         refine CW.cond (t := false) (by simp [zT, zF, lk]) ?_
         refine CW.exit (hR2I _ _ _ (hRI _ _ _ ?_))
         simp only [outOf, if_true, andThen]
         exact k49 _ _ _ hgq (by simp [sub, lk])
      refine CW.seqK fun K hK => CW.region ?_
      simp (maxDischargeDepth := 16) [zY]
      refine hK _ _ ?_; clear hK K
      rcases Classical.em (n41 ≤ m) with hc65 | hc65
      · refine CW.cond (t := true) (by simp [zT, zF, lk, hc65]) ?_
        refine CW.region ?_
        simp (maxDischargeDepth := 16) [zY, ha]
        refine call_sm (rh, IntKind.i64.wrap (m - n41)) h_RhssOf rhssGo_inj (by simp only [nrmR, AV.nrm, rhsR_nrm]) ⟨hl_rh, hs_rh⟩ (by dsimp only; omega) fun _ => ?_
        simp (maxDischargeDepth := 16) [zY]
        exact k47 (IntKind.i64.wrap (n41 + rhssGo rh (IntKind.i64.wrap (m - n41)) 0)) _ _ (gst_pos hc65) (by simp [sub, lk])
      · refine CW.cond (t := false) (by simp [zT, zF, lk, hc65]) ?_
        exact CW.skip (k47 (n41) _ _ (gst_neg hc65) (by simp [sub, lk]))
     refine CW.seqK fun K hK => CW.region ?_
     simp (maxDischargeDepth := 16) [zY]
     refine hK _ _ ?_; clear hK K
     rcases Classical.em (n39 ≤ m) with hc66 | hc66
     · refine CW.cond (t := true) (by simp [zT, zF, lk, hc66]) ?_
       refine CW.region ?_
       simp (maxDischargeDepth := 16) [zY, ha]
       refine call_sm (ty, IntKind.i64.wrap (m - n39)) h_TypesOf tysGo_inj (by simp only [nrmR, AV.nrm, tyR_nrm]) ⟨hl_ty, hs_ty⟩ (by dsimp only; omega) fun _ => ?_
       simp (maxDischargeDepth := 16) [zY]
       exact k43 (IntKind.i64.wrap (n39 + tysGo ty (IntKind.i64.wrap (m - n39)) 0)) _ _ (gst_pos hc66) (by simp [sub, lk])
     · refine CW.cond (t := false) (by simp [zT, zF, lk, hc66]) ?_
       exact CW.skip (k43 (n39) _ _ (gst_neg hc66) (by simp [sub, lk]))
   · rw [if_neg hnm] at hg
     simp (maxDischargeDepth := 16) [zY, hlt, hnm, Int.not_le.1 hnm]
     refine hK4 _ _ ?_
     refine CW.cond (t := false) (by simp [zT, zF, lk]) ?_
     refine CW.exit (hR2 _ _ _ (hR _ _ _ ?_))
     simp only [outOf, if_true, andThen]
     exact outk _ _ _ hg (by simp [sub, lk])
 · obtain rfl : i = l.length := by omega
   rw [List.drop_length, expsGo] at hg
   simp (maxDischargeDepth := 16) [zY]
   refine hK4 _ _ ?_
   refine CW.cond (t := false) (by simp [zT, zF, lk]) ?_
   refine CW.exit (hR2 _ _ _ (hR _ _ _ ?_))
   simp only [outOf, if_true, andThen]
   exact outk _ _ _ hg (by simp [sub, lk])
end Go.Proofs.YteajcnilihgheaaGreatDoor
