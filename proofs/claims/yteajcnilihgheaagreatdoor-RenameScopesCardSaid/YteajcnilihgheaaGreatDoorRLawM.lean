/-
 EV: the statements' own functions of layer 19: v, one, ints, ret, let.
-/
import Derived.Test.YteajcnilihgheaaGreatDoorSc14M
import Derived.Lib.ItoaLen
namespace Go.Proofs.YteajcnilihgheaaGreatDoor
set_option maxRecDepth 100000
set_option maxHeartbeats 8000000
set_option linter.unusedSimpArgs false
set_option linter.unusedVariables false
set_option linter.unusedSectionVars false
section
open Go.RowKit
variable {S : Sp} {N : Nat}
abbrev tInt : ByteArray := ⟨#[105, 110, 116]⟩
abbrev tX : ByteArray := ⟨#[120]⟩
abbrev tY : ByteArray := ⟨#[121]⟩
abbrev aV (nm : ByteArray) : Atm := .mk 1 nm false [] false
abbrev kV (nm : ByteArray) : Trm := .mk 1 nm false [] []
abbrev yInts (s : ByteArray) : Ty := .mk false tInt (.mk 9 ⟨#[]⟩ false [] [kV s, kV ⟨#[118]⟩]) [] []
abbrev rOne (s : ByteArray) : Rhs := .mk 1 ⟨#[]⟩ [aV s] [] [] [] []
abbrev eRet (a : Atm) : Exp := .mk 2 ⟨#[]⟩ [] [] a [] []
abbrev eLet (nm : ByteArray) (t : Ty) (r : Rhs) (e : Exp) : Exp := .mk 1 nm [t] [r] (.mk 0 ⟨#[]⟩ false [] false) [] [e]
abbrev lvF : FS := smF (fun nm : ByteArray => [.lit (.string nm)]) (fun nm => .agg (aV nm).cs) (fun _ => True) (fun _ => 0) 0
abbrev lintsF : FS := smF (fun nm : ByteArray => [.lit (.string nm)]) (fun nm => .agg (yInts nm).cs) (fun _ => True) (fun _ => 0) 0
abbrev loneF : FS := smF (fun nm : ByteArray => [.lit (.string nm)]) (fun nm => .agg (rOne nm).cs) (fun _ => True) (fun _ => 0) 1
abbrev lretF : FS := smF (fun a : Atm => [.agg a.cs]) (fun a => .agg (eRet a).cs) (fun _ => True) (fun _ => 0) 0
abbrev lletF : FS := smF (fun p : ByteArray × Ty × Rhs × Exp => [.lit (.string p.1), .agg p.2.1.cs, .agg p.2.2.1.cs, .agg p.2.2.2.cs]) (fun p => .agg (eLet p.1 p.2.1 p.2.2.1 p.2.2.2).cs) (fun _ => True) (fun _ => 0) 0
theorem lv_inj (a b : ByteArray) (e : [AV.lit (.string a)] = [AV.lit (.string b)]) : a = b := by simpa using e
theorem lret_inj (a b : Atm) (e : [AV.agg a.cs] = [AV.agg b.cs]) : a = b := by
 simp only [List.cons.injEq, AV.agg.injEq, and_true] at e
 exact Atm.inj e
theorem llet_inj (a b : ByteArray × Ty × Rhs × Exp) (e : [AV.lit (.string a.1), .agg a.2.1.cs, .agg a.2.2.1.cs, .agg a.2.2.2.cs] = [AV.lit (.string b.1), .agg b.2.1.cs, .agg b.2.2.1.cs, .agg b.2.2.2.cs]) : a = b := by
 obtain ⟨a1, a2, a3, a4⟩ := a; obtain ⟨b1, b2, b3, b4⟩ := b
 simp only [List.cons.injEq, AV.lit.injEq, Value.string.injEq, AV.agg.injEq, and_true] at e
 rw [e.1, Ty.inj e.2.1, Rhs.inj e.2.2.1, Exp.inj e.2.2.2]
theorem lv_w (hc : S.code = codeP Tryz.prog) (hm : S.ms 7 = []) : SmOk Tryz.prog S N 7 (fun nm : ByteArray => [.lit (.string nm)]) (fun nm => .agg (aV nm).cs) (fun _ => True) (fun _ => 0) 0 := by
 intro nm σ hk hN
 refine JC.startF (fn := Tryz.f7) (codeOf hc Tryz.func7 rfl (by kernel_rfl)) rfl hm rfl (zL rfl) fun tm => ?_
 refine CW.hide fun R0 hR0 => ?_
 refine CW.seqK fun K hK => CW.region ?_
 simp (maxDischargeDepth := 16) [zY]
 refine hK _ _ ?_; clear hK K
 refine CW.seqK fun K hK => CW.region ?_
 simp (maxDischargeDepth := 16) [zY]
 refine hK _ _ ?_; clear hK K
 exact CW.ret (hR0 _ _ _ ⟨.agg [.lit (.int .u8 1), .lit (.string nm), .lit (.bool false), .sl [] .full, .lit (.bool false)], by simp [zA, omap, zC, zX], done rfl rfl⟩)
theorem lret_w (hc : S.code = codeP Tryz.prog) (hm : S.ms 10 = []) : SmOk Tryz.prog S N 10 (fun a : Atm => [.agg a.cs]) (fun a => .agg (eRet a).cs) (fun _ => True) (fun _ => 0) 0 := by
 rintro ⟨k, nm, ng, dg, tr⟩ σ hk hN
 refine JC.startF (fn := Tryz.f10) (codeOf hc Tryz.func10 rfl (by kernel_rfl)) rfl hm rfl (zL rfl) fun tm => ?_
 refine CW.hide fun R0 hR0 => ?_
 simp only [Atm.cs]
 refine CW.seqK fun K hK => CW.region ?_
 simp (maxDischargeDepth := 16) [zY]
 refine hK _ _ ?_; clear hK K
 refine CW.seqK fun K hK => CW.region ?_
 simp (maxDischargeDepth := 16) [zY]
 refine hK _ _ ?_; clear hK K
 exact CW.ret (hR0 _ _ _ ⟨.agg [.lit (.int .u8 2), .lit (.string ⟨#[]⟩), .sl [] .full, .sl [] .full, .lit (.int .u8 k), .lit (.string nm), .lit (.bool ng), .sl (limR dg) .no, .lit (.bool tr), .sl [] .full, .sl [] .full], by simp [zA, omap, zC, zX], done (by simp [AV.pln, limR_pln, plnR, plnRR]) (by simp [AV.nrm, nrmR, nrmRR, limR_nrm, Exp.cs, tyR, rhsR, armR, expR])⟩)
theorem llet_w (hc : S.code = codeP Tryz.prog) (hm : S.ms 8 = []) : SmOk Tryz.prog S N 8 (fun p : ByteArray × Ty × Rhs × Exp => [.lit (.string p.1), .agg p.2.1.cs, .agg p.2.2.1.cs, .agg p.2.2.2.cs]) (fun p => .agg (eLet p.1 p.2.1 p.2.2.1 p.2.2.2).cs) (fun _ => True) (fun _ => 0) 0 := by
 rintro ⟨nm, ⟨yfn, yst, ⟨yk, ynm, yng, ydg, yks⟩, yps, yrs⟩, ⟨rk, rnm, rats, rps, rrs, rbd, rts⟩, ⟨ek, enm, ety, erh, ⟨amk, amnm, amng, amdg, amtr⟩, ear, ebd⟩⟩ σ hk hN
 refine JC.startF (fn := Tryz.f8) (codeOf hc Tryz.func8 rfl (by kernel_rfl)) rfl hm rfl (zL rfl) fun tm => ?_
 refine CW.hide fun R0 hR0 => ?_
 simp only [Ty.cs, Rhs.cs, Exp.cs]
 refine CW.seqK fun K hK => CW.region ?_
 simp (maxDischargeDepth := 16) [zY]
 refine hK _ _ ?_; clear hK K
 refine CW.seqK fun K hK => CW.region ?_
 simp (maxDischargeDepth := 16) [zY]
 refine hK _ _ ?_; clear hK K
 exact CW.ret (hR0 _ _ _ ⟨.agg [.lit (.int .u8 1), .lit (.string nm), .sl [[.lit (.bool yfn), .lit (.string yst), .lit (.int .u8 yk), .lit (.string ynm), .lit (.bool yng), .sl (limR ydg) .no, .sl (trmR yks) .no, .sl (prmR yps) .no, .sl (tyR yrs) .no]] .full, .sl [[.lit (.int .u8 rk), .lit (.string rnm), .sl (atmR rats) .no, .sl (prmR rps) .no, .sl (tyR rrs) .no, .sl (expR rbd) .no, .sl (trmR rts) .no]] .full, .lit (.int .u8 0), .lit (.string ⟨#[]⟩), .lit (.bool false), .sl [] .full, .lit (.bool false), .sl [] .full, .sl [[.lit (.int .u8 ek), .lit (.string enm), .sl (tyR ety) .no, .sl (rhsR erh) .no, .lit (.int .u8 amk), .lit (.string amnm), .lit (.bool amng), .sl (limR amdg) .no, .lit (.bool amtr), .sl (armR ear) .no, .sl (expR ebd) .no]] .full], by simp [zA, omap, zC, zX], done (by simp [AV.pln, limR_pln, trmR_pln, prmR_pln, tyR_pln, atmR_pln, expR_pln, rhsR_pln, armR_pln, plnR, plnRR]) (by simp [AV.nrm, nrmR, nrmRR, limR_nrm, trmR_nrm, prmR_nrm, tyR_nrm, atmR_nrm, expR_nrm, rhsR_nrm, armR_nrm, Exp.cs, tyR, rhsR, armR, expR, Ty.cs, Rhs.cs, show limR [] = [] from rfl])⟩)
theorem lints_w (hc : S.code = codeP Tryz.prog) (hm : S.ms 6 = []) : SmOk Tryz.prog S N 6 (fun nm : ByteArray => [.lit (.string nm)]) (fun nm => .agg (yInts nm).cs) (fun _ => True) (fun _ => 0) 0 := by
 intro nm σ hk hN
 refine JC.startF (fn := Tryz.f6) (codeOf hc Tryz.func6 rfl (by kernel_rfl)) rfl hm rfl (zL rfl) fun tm => ?_
 refine CW.hide fun R0 hR0 => ?_
 refine CW.seqK fun K hK => CW.region ?_
 simp (maxDischargeDepth := 16) [zY]
 refine hK _ _ ?_; clear hK K
 refine CW.seqK fun K hK => CW.region ?_
 simp (maxDischargeDepth := 16) [zY]
 refine hK _ _ ?_; clear hK K
 exact CW.ret (hR0 _ _ _ ⟨.agg [.lit (.bool false), .lit (.string tInt), .lit (.int .u8 9), .lit (.string ⟨#[]⟩), .lit (.bool false), .sl [] .full, .sl [[.lit (.int .u8 1), .lit (.string nm), .lit (.bool false), .sl [] .full, .sl [] .full], [.lit (.int .u8 1), .lit (.string ⟨#[118]⟩), .lit (.bool false), .sl [] .full, .sl [] .full]] .full, .sl [] .full, .sl [] .full], by simp [zA, omap, zC, zX], done (by simp [AV.pln, plnR, plnRR]) (by simp [AV.nrm, nrmR, nrmRR, Ty.cs, prmR, tyR, trmR, limR, Trm.cs])⟩)
theorem lone_w (hc : S.code = codeP Tryz.prog) (hm : S.ms 9 = []) (h1 : S.sp 7 = some lvF) : SmOk Tryz.prog S N 9 (fun nm : ByteArray => [.lit (.string nm)]) (fun nm => .agg (rOne nm).cs) (fun _ => True) (fun _ => 0) 1 := by
 intro nm σ hk hN
 refine JC.startF (fn := Tryz.f9) (codeOf hc Tryz.func9 rfl (by kernel_rfl)) rfl hm rfl (zL rfl) fun tm => ?_
 refine CW.hide fun R0 hR0 => ?_
 refine CW.seqK fun K hK => CW.region ?_
 simp (maxDischargeDepth := 16) [zY]
 refine hK _ _ ?_; clear hK K
 refine CW.seqK fun K hK => CW.region ?_
 simp (maxDischargeDepth := 16) [zY]
 refine call_sm nm h1 lv_inj (by simp [nrmR, AV.nrm]) trivial (by omega) fun _ => ?_
 simp (maxDischargeDepth := 16) [zY, Atm.cs, limR]
 refine hK _ _ ?_
 exact CW.ret (hR0 _ _ _ ⟨.agg [.lit (.int .u8 1), .lit (.string ⟨#[]⟩), .sl [[.lit (.int .u8 1), .lit (.string nm), .lit (.bool false), .sl [] .no, .lit (.bool false)]] .full, .sl [] .full, .sl [] .full, .sl [] .full, .sl [] .full], by simp [zA, omap, zC, zX], done (by simp [AV.pln, plnR, plnRR]) (by simp [AV.nrm, nrmR, nrmRR, Rhs.cs, prmR, tyR, trmR, limR, Atm.cs, atmR, expR])⟩)
end
section
open Go.RowKit
variable {S : Sp} {N : Nat}
abbrev x1 : ByteArray := ⟨#[120, 95, 49]⟩
abbrev x2 : ByteArray := ⟨#[120, 95, 50]⟩
abbrev x3 : ByteArray := ⟨#[120, 95, 51]⟩
abbrev x7 : ByteArray := ⟨#[120, 95, 55]⟩
abbrev y1 : ByteArray := ⟨#[121, 95, 49]⟩
abbrev yNo : Ty := .mk false ⟨#[]⟩ (.mk 0 ⟨#[]⟩ false [] []) [] []
abbrev fA : Fun := .mk ⟨#[102]⟩ [.mk tX (yInts tX)] (yInts tX) (eLet x7 (yInts tX) (rOne tX) (eRet (aV x7)))
abbrev fB : Fun := .mk ⟨#[]⟩ [.mk tX (yInts tY)] yNo (eLet tY (yInts tX) (rOne tX) (eRet (aV tY)))
abbrev gA : Fun := .mk ⟨#[102]⟩ [.mk x2 (yInts tX)] (yInts x2) (eLet x3 (yInts x2) (rOne x2) (eRet (aV x3)))
abbrev gB : Fun := .mk ⟨#[]⟩ [.mk x1 (yInts tY)] yNo (eLet y1 (yInts x1) (rOne x1) (eRet (aV y1)))
theorem fr1 : freshB [tX, x1] tX = x2 := by decide +kernel
theorem fr2 : freshB [tX, x1, x2] x7 = x3 := by decide +kernel
theorem fr3 : freshB [] tX = x1 := by decide +kernel
theorem fr4 : freshB [x1] tY = y1 := by decide +kernel
theorem renA1 : renF NFp [tX, x1] fA = (gA, [tX, x1, x2, x3]) := by
 have h1 : NFp.f [tX, x1] tX = x2 := fr1
 have h2 : NFp.f [tX, x1, x2] x7 = x3 := fr2
 simp [renF, renPs, renP, renY, renYs, renT, renTs, renE, renEs, renRs, renR, renMs, renM, renA, letN, nowB, Prm.nmOf, h1, h2, vB]
theorem renB1 : renF NFp [] fB = (gB, [x1, y1]) := by
 have h1 : NFp.f [] tX = x1 := fr3
 have h2 : NFp.f [x1] tY = y1 := fr4
 simp [renF, renPs, renP, renY, renYs, renT, renTs, renE, renEs, renRs, renR, renMs, renM, renA, letN, nowB, Prm.nmOf, h1, h2, vB]
theorem okA1 : FreshOk ([tX, x1], fA) := ⟨by decide, by decide, by decide⟩
theorem okB1 : FreshOk ([], fB) := ⟨by decide, by decide, by decide⟩
theorem fresh_inj (a b : List ByteArray × Fun) (e : [AV.sl (txtR a.1) .no, .agg a.2.cs] = [.sl (txtR b.1) .no, .agg b.2.cs]) : a = b := by
 obtain ⟨a1, a2⟩ := a; obtain ⟨b1, b2⟩ := b
 simp only [List.cons.injEq, AV.sl.injEq, AV.agg.injEq, and_true] at e
 rw [txtR_inj e.1, Fun.inj e.2]
theorem lt_n {a N : Nat} (h : a ≤ 100) (h2 : 16000 ≤ N) : 16 * a + 5 < N := by omega
abbrev lawakeF : FS := smF (fun _ : Unit => []) (fun _ => .lit (.bool true)) (fun _ => True) (fun _ => 1000) 0
theorem lawake_w (hc : S.code = codeP Tryz.prog) (hm : S.ms 13 = []) (hV : S.sp 7 = some lvF) (hI : S.sp 6 = some lintsF) (hO : S.sp 9 = some loneF) (hR : S.sp 10 = some lretF) (hL : S.sp 8 = some lletF)
    (hF : S.sp 15 = some freshF) (hT : S.sp 17 = some (sameF (fun l => .sl (txtR l) .no) List.length 0)) :
    SmOk Tryz.prog S N 13 (fun _ : Unit => []) (fun _ => .lit (.bool true)) (fun _ => True) (fun _ => 1000) 0 := by
 intro _ σ hk hN
 refine JC.startF (fn := Tryz.f13) (codeOf hc Tryz.func13 rfl (by kernel_rfl)) rfl hm rfl (zL rfl) fun tm => ?_
 refine CW.hide fun R0 hR0 => ?_
 replace hN : 16000 ≤ N := hN
 refine CW.seqK fun K hK => CW.region ?_
 simp (maxDischargeDepth := 16) [zY]
 refine hK _ _ ?_; clear hK K
 refine CW.seqK fun K hK => CW.region ?_
 simp (maxDischargeDepth := 16) [zY]
 refine call_sm tX hI lv_inj (by simp only [nrmR, AV.nrm]) trivial (by omega) fun _ => ?_
 simp (maxDischargeDepth := 16) [zY, Ty.cs, Trm.cs, trmR, limR, prmR, tyR]
 refine call_sm tX hI lv_inj (by simp only [nrmR, AV.nrm]) trivial (by omega) fun _ => ?_
 simp (maxDischargeDepth := 16) [zY, Ty.cs, Trm.cs, trmR, limR, prmR, tyR]
 refine call_sm tX hI lv_inj (by simp only [nrmR, AV.nrm]) trivial (by omega) fun _ => ?_
 simp (maxDischargeDepth := 16) [zY]
 refine call_sm tX hO lv_inj (by simp only [nrmR, AV.nrm]) trivial (by omega) fun _ => ?_
 simp (maxDischargeDepth := 16) [zY]
 refine call_sm x7 hV lv_inj (by simp only [nrmR, AV.nrm]) trivial (by omega) fun _ => ?_
 simp (maxDischargeDepth := 16) [zY]
 refine call_sm (aV x7) hR lret_inj (by simp only [nrmR, AV.nrm, Atm.nrm]) trivial (by omega) fun _ => ?_
 simp (maxDischargeDepth := 16) [zY]
 refine call_sm (x7, yInts tX, rOne tX, eRet (aV x7)) hL llet_inj (by simp only [nrmR, AV.nrm, Ty.nrm, Rhs.nrm, Exp.nrm]) trivial (by omega) fun _ => ?_
 simp (maxDischargeDepth := 16) [zY, Exp.len, Exp.tk, Exp.put, Exp.cs, Ty.cs, Trm.cs, trmR, limR, prmR, tyR, Rhs.cs, rhsR, atmR, Atm.cs, armR, expR]
 refine call_sm ([tX, x1], fA) hF fresh_inj (by simp [nrmR, AV.nrm, nrmRR, txtR, Fun.cs, Exp.cs, Ty.cs, Trm.cs, trmR, limR, prmR, Prm.cs, tyR, Rhs.cs, rhsR, atmR, Atm.cs, armR, expR]) okA1 (lt_n (a := fA.n) (by decide) hN) fun _ => ?_
 rw [renA1]
 simp (maxDischargeDepth := 16) [zY, Fun.cs, Exp.cs, Ty.cs, Trm.cs, trmR, limR, prmR, Prm.cs, tyR, Rhs.cs, rhsR, atmR, Atm.cs, armR, expR]
 refine hK _ _ ?_; clear hK K
 refine CW.seqK fun K hK => CW.region ?_
 simp (maxDischargeDepth := 16) [zY]
 refine call_sm tY hI lv_inj (by simp only [nrmR, AV.nrm]) trivial (by omega) fun _ => ?_
 simp (maxDischargeDepth := 16) [zY, Ty.cs, Trm.cs, trmR, limR, prmR, tyR]
 refine call_sm tX hI lv_inj (by simp only [nrmR, AV.nrm]) trivial (by omega) fun _ => ?_
 simp (maxDischargeDepth := 16) [zY]
 refine call_sm tX hO lv_inj (by simp only [nrmR, AV.nrm]) trivial (by omega) fun _ => ?_
 simp (maxDischargeDepth := 16) [zY]
 refine call_sm tY hV lv_inj (by simp only [nrmR, AV.nrm]) trivial (by omega) fun _ => ?_
 simp (maxDischargeDepth := 16) [zY]
 refine call_sm (aV tY) hR lret_inj (by simp only [nrmR, AV.nrm, Atm.nrm]) trivial (by omega) fun _ => ?_
 simp (maxDischargeDepth := 16) [zY]
 refine call_sm (tY, yInts tX, rOne tX, eRet (aV tY)) hL llet_inj (by simp only [nrmR, AV.nrm, Ty.nrm, Rhs.nrm, Exp.nrm]) trivial (by omega) fun _ => ?_
 simp (maxDischargeDepth := 16) [zY, Exp.len, Exp.tk, Exp.put, Exp.cs, Ty.cs, Trm.cs, trmR, limR, prmR, tyR, Rhs.cs, rhsR, atmR, Atm.cs, armR, expR]
 refine call_sm ([], fB) hF fresh_inj (by simp [nrmR, AV.nrm, nrmRR, txtR, Fun.cs, Exp.cs, Ty.cs, Trm.cs, trmR, limR, prmR, Prm.cs, tyR, Rhs.cs, rhsR, atmR, Atm.cs, armR, expR]) okB1 (lt_n (a := fB.n) (by decide) hN) fun _ => ?_
 rw [renB1]
 simp (maxDischargeDepth := 16) [zY, Fun.cs, Exp.cs, Ty.cs, Trm.cs, trmR, limR, prmR, Prm.cs, tyR, Rhs.cs, rhsR, atmR, Atm.cs, armR, expR]
 refine hK _ _ ?_; clear hK K
 refine CW.seqK fun K hK => CW.region ?_
 simp (maxDischargeDepth := 16) [zY]
 refine call_same [tX, x1, x2, x3] [tX, x1, x2, x3] hT (sl_inj txtR_inj) (by simp [nrmR, AV.nrm, nrmRR, txtR]) (by decide) (by show 16 * 4 + 0 < N; omega) fun hac => ?_
 rw [eqb_self] at hac ⊢
 simp (maxDischargeDepth := 16) [zY]
 refine hK _ _ ?_; clear hK K
 refine CW.ret (hR0 _ _ _ ⟨.lit (.bool true), by simp [zA, omap, zB, zF, lk], Fgt.pure ⟨_, rfl⟩ (Frz.nrm rfl)⟩)
end
section
open Go.RowKit
variable {S : Sp} {N : Nat}
structure Sm9 (p : List ByteArray × Fun) : Prop where
 ok : FreshOk p
 n : (renF NFp p.1 p.2).1.n ≤ 1000000000
 l : (renF NFp p.1 p.2).2.length ≤ 1000000000
noncomputable abbrev lsameF : FS := smF (fun p : List ByteArray × Fun => [.sl (txtR p.1) .no, .agg p.2.cs]) (fun _ => .lit (.bool true)) Sm9 (fun p => p.2.n + (renF NFp p.1 p.2).1.n + (renF NFp p.1 p.2).2.length) 12
theorem lsame_w (hc : S.code = codeP Tryz.prog) (hm : S.ms 11 = []) (h1 : S.sp 15 = some freshF) (h2 : S.sp 26 = some freshF) (h3 : S.sp 27 = some (sameF (fun t : Fun => .agg t.cs) Fun.n 11)) (h4 : S.sp 17 = some (sameF (fun l => .sl (txtR l) .no) List.length 0)) :
    SmOk Tryz.prog S N 11 (fun p : List ByteArray × Fun => [.sl (txtR p.1) .no, .agg p.2.cs]) (fun _ => .lit (.bool true)) Sm9 (fun p => p.2.n + (renF NFp p.1 p.2).1.n + (renF NFp p.1 p.2).2.length) 12 := by
 rintro ⟨u, f⟩ σ ⟨hok, hn, hl⟩ hN
 dsimp only at hok hn hl hN ⊢
 have hc1 : ∀ (args : List AV) (σ : Sto) (Q : ARes → Sto → Prop), nrmR args = [.sl (txtR u) .no, .agg f.cs] → Q (.ret (.tup [.agg (renF NFp u f).1.cs, .sl (txtR (renF NFp u f).2) .no])) σ → CallW Tryz.prog (S.E N) 15 args σ Q := fun args σ Q ha hq => call_sm (u, f) h1 fresh_inj ha hok (by dsimp only; omega) fun _ => hq
 have hc2 : ∀ (args : List AV) (σ : Sto) (Q : ARes → Sto → Prop), nrmR args = [.sl (txtR u) .no, .agg f.cs] → Q (.ret (.tup [.agg (renF NFp u f).1.cs, .sl (txtR (renF NFp u f).2) .no])) σ → CallW Tryz.prog (S.E N) 26 args σ Q := fun args σ Q ha hq => call_sm (u, f) h2 fresh_inj ha hok (by dsimp only; omega) fun _ => hq
 have hN3 : 16 * (renF NFp u f).1.n + 11 < N := by omega
 have hN4 : 16 * (renF NFp u f).2.length + 0 < N := by omega
 generalize (renF NFp u f).1 = g at *
 generalize (renF NFp u f).2 = us at *
 clear hN hok
 refine JC.startF (fn := Tryz.f11) (codeOf hc Tryz.func11 rfl (by kernel_rfl)) rfl hm rfl (zL rfl) fun tm => ?_
 refine CW.hide fun R0 hR0 => ?_
 refine CW.seqK fun K hK => CW.region ?_
 simp (maxDischargeDepth := 16) [zY, Fun.len, Fun.tk, Fun.put]
 refine hK _ _ ?_; clear hK K
 refine CW.seqK fun K hK => CW.region ?_
 simp (maxDischargeDepth := 16) [zY, Fun.len, Fun.tk, Fun.put]
 refine hc1 _ _ _ (by simp only [nrmR, AV.nrm, Fun.nrm, txtR_nrm]) ?_
 simp (maxDischargeDepth := 16) [zY, Fun.len, Fun.tk, Fun.put]
 refine hK _ _ ?_; clear hK K
 refine CW.seqK fun K hK => CW.region ?_
 simp (maxDischargeDepth := 16) [zY, Fun.len, Fun.tk, Fun.put]
 refine hc2 _ _ _ (by simp only [nrmR, AV.nrm, Fun.nrm, txtR_nrm]) ?_
 simp (maxDischargeDepth := 16) [zY, Fun.len, Fun.tk, Fun.put]
 refine hK _ _ ?_; clear hK K
 refine CW.seqK fun K hK => CW.region ?_
 simp (maxDischargeDepth := 16) [zY, Fun.len, Fun.tk, Fun.put]
 refine call_same g g h3 (agg_inj Fun.inj) (by simp only [nrmR, AV.nrm, Fun.nrm]) hn hN3 fun _ => ?_
 rw [eqb_self]
 simp (maxDischargeDepth := 16) [zY, Fun.len, Fun.tk, Fun.put]
 refine call_same us us h4 (sl_inj txtR_inj) (by simp only [nrmR, AV.nrm, txtR_nrm]) hl hN4 fun _ => ?_
 rw [eqb_self]
 simp (maxDischargeDepth := 16) [zY]
 refine hK _ _ ?_; clear hK K
 refine CW.ret (hR0 _ _ _ ⟨.lit (.bool true), by simp [zA, omap, zB, zF, lk], done rfl rfl⟩)
end
section
open Go.RowKit
theorem atmN_leW : ∀ l : List Atm, atmN l ≤ atmW l
 | [] => Nat.le_refl _
 | .mk k nm ng dg tr :: l => by have := atmN_leW l; simp only [atmN, atmW, Atm.n, Atm.w]; omega
mutual
theorem Trm.n_leW : ∀ t : Trm, t.n ≤ t.w
 | .mk k nm ng dg ks => by have := trmN_leW ks; simp only [Trm.n, Trm.w]; omega
theorem trmN_leW : ∀ l : List Trm, trmN l ≤ trmW l
 | [] => Nat.le_refl _
 | x :: l => by have := Trm.n_leW x; have := trmN_leW l; simp only [trmN, trmW]; omega
end
mutual
theorem Ty.n_leW : ∀ t : Ty, t.n ≤ t.w
 | .mk fn st rf ps rs => by rw [Ty.n_eq]; have := Trm.n_leW rf; have := prmN_leW ps; have := tyN_leW rs; simp only [Ty.w]; omega
theorem tyN_leW : ∀ l : List Ty, tyN l ≤ tyW l
 | [] => Nat.le_refl _
 | x :: l => by have := Ty.n_leW x; have := tyN_leW l; simp only [tyN, tyW]; omega
theorem Prm.n_leW : ∀ t : Prm, t.n ≤ t.w
 | .mk nm ty => by rw [Prm.n_eq]; have := Ty.n_leW ty; simp only [Prm.w]; omega
theorem prmN_leW : ∀ l : List Prm, prmN l ≤ prmW l
 | [] => Nat.le_refl _
 | x :: l => by have := Prm.n_leW x; have := prmN_leW l; simp only [prmN, prmW]; omega
end
theorem Atm.n_leW : ∀ t : Atm, t.n ≤ t.w
 | .mk k nm ng dg tr => by simp only [Atm.n, Atm.w]; omega
mutual
theorem Exp.n_leW : ∀ t : Exp, t.n ≤ t.w
 | .mk k nm ty rh am ar bd => by rw [Exp.n_eq]; have := Atm.n_leW am; have := tyN_leW ty; have := rhsN_leW rh; have := armN_leW ar; have := expN_leW bd; simp only [Exp.w]; omega
theorem expN_leW : ∀ l : List Exp, expN l ≤ expW l
 | [] => Nat.le_refl _
 | x :: l => by have := Exp.n_leW x; have := expN_leW l; simp only [expN, expW]; omega
theorem Rhs.n_leW : ∀ t : Rhs, t.n ≤ t.w
 | .mk k nm ats ps rs bd ts => by have := atmN_leW ats; have := prmN_leW ps; have := tyN_leW rs; have := expN_leW bd; have := trmN_leW ts; simp only [Rhs.n, Rhs.w]; omega
theorem rhsN_leW : ∀ l : List Rhs, rhsN l ≤ rhsW l
 | [] => Nat.le_refl _
 | x :: l => by have := Rhs.n_leW x; have := rhsN_leW l; simp only [rhsN, rhsW]; omega
theorem Arm.n_leW : ∀ t : Arm, t.n ≤ t.w
 | .mk cn ns bd => by have := txtW_len ns; have := expN_leW bd; simp only [Arm.n, Arm.w]; omega
theorem armN_leW : ∀ l : List Arm, armN l ≤ armW l
 | [] => Nat.le_refl _
 | x :: l => by have := Arm.n_leW x; have := armN_leW l; simp only [armN, armW]; omega
end
def Fun.w : Fun → Nat
 | .mk nm ps rs bd => 1 + nm.size + prmW ps + rs.w + bd.w
theorem Fun.n_leW : ∀ f : Fun, f.n ≤ f.w
 | .mk nm ps (.mk rsfn rsst (.mk rsrfk rsrfnm rsrfng rsrfdg rsrfks) rsps rsrs) (.mk bdk bdnm bdty bdrh (.mk bdamk bdamnm bdamng bdamdg bdamtr) bdar bdbd) => by
  have := prmN_leW ps; have := trmN_leW rsrfks; have := prmN_leW rsps; have := tyN_leW rsrs; have := tyN_leW bdty; have := rhsN_leW bdrh; have := armN_leW bdar; have := expN_leW bdbd
  simp only [Fun.n, Fun.w, Ty.w, Exp.w, Trm.w, Atm.w]; omega
def BL (b : List ByteArray) (W : Nat) : Prop := b.length ≤ W ∧ ∀ s ∈ b, s.size ≤ W
theorem BL.app {a b : List ByteArray} {x y : Nat} (h : BL a x) (k : BL b y) : BL (a ++ b) (x + y) := by
 refine ⟨by have := h.1; have := k.1; rw [List.length_append]; omega, fun s hs => ?_⟩
 rcases List.mem_append.1 hs with hs | hs
 · have := h.2 s hs; omega
 · have := k.2 s hs; omega
theorem BL.le {a : List ByteArray} {x y : Nat} (h : BL a x) (hx : x ≤ y) : BL a y := ⟨Nat.le_trans h.1 hx, fun s hs => Nat.le_trans (h.2 s hs) hx⟩
theorem BL.no (W : Nat) : BL [] W := ⟨Nat.zero_le _, by simp⟩
theorem BL.one (s : ByteArray) : BL [s] (1 + s.size) := ⟨by simp only [List.length_cons, List.length_nil]; omega, fun x hx => by rw [List.mem_singleton.1 hx]; omega⟩
theorem BL.txt : ∀ l : List ByteArray, BL l (txtW l)
 | [] => BL.no _
 | x :: l => (BL.one x).app (BL.txt l)
mutual
theorem bl_Y : ∀ t : Ty, BL (bY t) t.w
 | .mk fn st rf ps rs => by
  cases fn with
  | false => exact BL.no _
  | true => exact ((bl_Ps ps).app (bl_Ys rs)).le (by simp only [Ty.w]; omega)
theorem bl_P : ∀ t : Prm, BL (bP t) t.w
 | .mk nm ty => by simp only [bP, Prm.w]; exact (BL.one nm).app (bl_Y ty)
theorem bl_Ps : ∀ t : List Prm, BL (bPs t) (prmW t)
 | [] => BL.no _
 | x :: l => by simp only [bPs, prmW]; exact (bl_P x).app (bl_Ps l)
theorem bl_Ys : ∀ t : List Ty, BL (bYs t) (tyW t)
 | [] => BL.no _
 | x :: l => by simp only [bYs, tyW]; exact (bl_Y x).app (bl_Ys l)
end
mutual
theorem bl_E : ∀ t : Exp, BL (bE t) t.w
 | .mk k nm ty rh am ar bd => by
  simp only [bE, Exp.w]
  have h : BL (if k = 1 then [nm] else []) (1 + nm.size) := by
   split
   · exact BL.one nm
   · exact BL.no _
  exact ((((h.app (bl_Ys ty)).app (bl_Rs rh)).app (bl_Es bd)).app (bl_Ms ar)).le (by omega)
theorem bl_Es : ∀ t : List Exp, BL (bEs t) (expW t)
 | [] => BL.no _
 | x :: l => by simp only [bEs, expW]; exact (bl_E x).app (bl_Es l)
theorem bl_R : ∀ t : Rhs, BL (bR t) t.w
 | .mk k nm ats ps rs bd ts => by
  simp only [bR, Rhs.w]
  exact (((bl_Ps ps).app (bl_Ys rs)).app (bl_Es bd)).le (by omega)
theorem bl_Rs : ∀ t : List Rhs, BL (bRs t) (rhsW t)
 | [] => BL.no _
 | x :: l => by simp only [bRs, rhsW]; exact (bl_R x).app (bl_Rs l)
theorem bl_M : ∀ t : Arm, BL (bM t) t.w
 | .mk cn ns bd => by simp only [bM, Arm.w]; exact ((BL.txt ns).app (bl_Es bd)).le (by omega)
theorem bl_Ms : ∀ t : List Arm, BL (bMs t) (armW t)
 | [] => BL.no _
 | x :: l => by simp only [bMs, armW]; exact (bl_M x).app (bl_Ms l)
end
theorem bl_F : ∀ f : Fun, BL (bF f) f.w
 | .mk nm ps rs bd => by simp only [bF, Fun.w]; exact (((bl_Ps ps).app (bl_Y rs)).app (bl_E bd)).le (by omega)
theorem fresh_size (u : List ByteArray) (s : ByteArray) (h : u.length ≤ 1000000000) : (freshB u s).size ≤ 60 := by
 have h1 := leastN_le u (beginL s)
 have h2 : (stemL s.data.toList).length ≤ 30 := by unfold stemL; rw [List.length_take]; omega
 have h3 : (Lib.decDigits (leastN u (beginL s))).length ≤ 20 := by
  rw [Lib.decDigits_length]
  exact Lib.nDigits_le20 _ (by omega)
 have h4 : (freshB u s).size = ((stemL s.data.toList ++ [95]) ++ Lib.decDigits (leastN u (beginL s))).length := by
  simp only [freshB, nameN, beginL, ByteArray.size, List.size_toArray]
 rw [h4]; simp only [List.length_append, List.length_cons, List.length_nil]; omega
def LB (l : Bnd) : Prop := ∀ p ∈ l, p.2.size ≤ 60
theorem LB.now {l : Bnd} (h : LB l) (x : ByteArray) : (nowB l x).size ≤ x.size + 60 := by
 induction l with
 | nil => simp [nowB]
 | cons p l ih =>
  have h1 := h p (by simp)
  have h2 := ih fun q hq => h q (by simp [hq])
  rw [nowB]
  split <;> omega
theorem LB.cons {l : Bnd} (h : LB l) (o n : ByteArray) (hn : n.size ≤ 60) : LB ((o, n) :: l) := fun p hp => by
 rcases List.mem_cons.1 hp with rfl | hp
 · exact hn
 · exact h p hp
section
variable {l : Bnd} (hl : LB l)
include hl
mutual
theorem renT_w : ∀ t : Trm, (renT l t).w ≤ 61 * t.w
 | .mk k nm ng dg ks => by
  have h1 := renTs_w ks
  have h2 : (if k = 1 ∧ nm ≠ vB then nowB l nm else nm).size ≤ nm.size + 60 := by
   have := hl.now nm
   split <;> omega
  simp only [renT, Trm.w]; omega
theorem renTs_w : ∀ t : List Trm, trmW (renTs l t) ≤ 61 * trmW t
 | [] => Nat.le_refl _
 | x :: t => by have := renT_w x; have := renTs_w t; simp only [renTs, trmW]; omega
end
theorem renA_w : ∀ t : Atm, (renA l t).w ≤ 61 * t.w
 | .mk k nm ng dg tr => by
  have h2 : (if k = 1 then nowB l nm else nm).size ≤ nm.size + 60 := by
   have := hl.now nm
   split <;> omega
  simp only [renA, Atm.w]; omega
theorem renAs_w : ∀ t : List Atm, atmW (t.map (renA l)) ≤ 61 * atmW t
 | [] => Nat.le_refl _
 | x :: t => by have := renA_w hl x; have := renAs_w t; simp only [List.map_cons, atmW]; omega
end
section
variable {F : NF} (hF : ∀ u s, u.length ≤ 1000000000 → (F.f u s).size ≤ 60)
include hF
theorem lb_Ps : ∀ (ps : List Prm) (l : Bnd) (u : List ByteArray), LB l → u.length + (bPs ps).length ≤ 1000000000 → LB (renPs F l u ps).2.1
 | [], l, u, h, _ => h
 | p :: ps, l, u, h, hu => by
  simp only [bPs, List.length_append] at hu
  have e := (anew_P l u p (F := F)).len
  simp only [renPs]
  exact lb_Ps ps _ _ (h.cons _ _ (by rw [renP_nm]; exact hF _ _ (by omega))) (by omega)
theorem lb_Ns : ∀ (ns : List ByteArray) (l : Bnd) (u : List ByteArray), LB l → u.length + ns.length ≤ 1000000000 → LB (renNs F l u ns).2.1
 | [], l, u, h, _ => h
 | p :: ps, l, u, h, hu => by
  simp only [List.length_cons] at hu
  simp only [renNs]
  exact lb_Ns ps _ _ (h.cons _ _ (hF _ _ (by omega))) (by simp only [List.length_append, List.length_cons, List.length_nil]; omega)
theorem lb_let {l : Bnd} (u : List ByteArray) (k : Int) (nm : ByteArray) (h : LB l) (hu : u.length ≤ 1000000000) : LB (letN F l u k nm).2.1 ∧ (letN F l u k nm).1.size ≤ nm.size + 60 := by
 have := hF u nm hu
 unfold letN
 split
 · exact ⟨h.cons _ _ this, by show (F.f u nm).size ≤ _; omega⟩
 · exact ⟨h, by show nm.size ≤ _; omega⟩
theorem renNs_w : ∀ (ns : List ByteArray) (l : Bnd) (u : List ByteArray), u.length + ns.length ≤ 1000000000 → txtW (renNs F l u ns).1 ≤ 61 * txtW ns
 | [], l, u, _ => Nat.le_refl _
 | p :: ps, l, u, hu => by
  simp only [List.length_cons] at hu
  have h1 := hF u p (by omega)
  have h2 := renNs_w ps ((p, F.f u p) :: l) (u ++ [F.f u p]) (by simp only [List.length_append, List.length_cons, List.length_nil]; omega)
  simp only [renNs, txtW]; omega
mutual
theorem renY_w : ∀ (t : Ty) (l : Bnd) (u : List ByteArray), LB l → u.length + (bY t).length ≤ 1000000000 → (renY F l u t).1.w ≤ 61 * t.w
 | .mk fn st rf ps rs, l, u, hl, h => by
  have h0 := renT_w hl rf
  cases fn with
  | false => simp only [renY, Bool.false_eq_true, if_false, Ty.w]; omega
  | true =>
   simp only [bY, if_true, List.length_append] at h
   have e := (anew_Ps l u ps (F := F)).len
   have h1 := renPs_w ps l u hl (by omega)
   have h2 := renYs_w rs (renPs F l u ps).2.1 (renPs F l u ps).2.2 (lb_Ps hF ps l u hl (by omega)) (by omega)
   simp only [renY, if_true, Ty.w]; omega
theorem renP_w : ∀ (t : Prm) (l : Bnd) (u : List ByteArray), LB l → u.length + (bP t).length ≤ 1000000000 → (renP F l u t).1.w ≤ 61 * t.w
 | .mk nm ty, l, u, hl, h => by
  simp only [bP, List.length_append, List.length_cons, List.length_nil] at h
  have h1 := hF u nm (by omega)
  have h2 := renY_w ty l (u ++ [F.f u nm]) hl (by simp only [List.length_append, List.length_cons, List.length_nil]; omega)
  simp only [renP, Prm.w]; omega
theorem renPs_w : ∀ (t : List Prm) (l : Bnd) (u : List ByteArray), LB l → u.length + (bPs t).length ≤ 1000000000 → prmW (renPs F l u t).1 ≤ 61 * prmW t
 | [], l, u, hl, h => Nat.le_refl _
 | p :: ps, l, u, hl, h => by
  simp only [bPs, List.length_append] at h
  have e := (anew_P l u p (F := F)).len
  have h1 := renP_w p l u hl (by omega)
  have h2 := renPs_w ps ((p.nmOf, (renP F l u p).1.nmOf) :: l) (renP F l u p).2 (hl.cons _ _ (by rw [renP_nm]; exact hF _ _ (by omega))) (by omega)
  simp only [renPs, prmW]; omega
theorem renYs_w : ∀ (t : List Ty) (l : Bnd) (u : List ByteArray), LB l → u.length + (bYs t).length ≤ 1000000000 → tyW (renYs F l u t).1 ≤ 61 * tyW t
 | [], l, u, hl, h => Nat.le_refl _
 | p :: ps, l, u, hl, h => by
  simp only [bYs, List.length_append] at h
  have e := (anew_Y l u p (F := F)).len
  have h1 := renY_w p l u hl (by omega)
  have h2 := renYs_w ps l (renY F l u p).2 hl (by omega)
  simp only [renYs, tyW]; omega
end
mutual
theorem renE_w : ∀ (t : Exp) (l : Bnd) (u : List ByteArray), LB l → u.length + (bE t).length ≤ 1000000000 → (renE F l u t).1.w ≤ 61 * t.w
 | .mk k nm ty rh am ar bd, l, u, hl, h => by
  simp only [bE, List.length_append] at h
  have e1 := (anew_let l u k nm (F := F)).len
  have h1 := lb_let hF u k nm hl (by omega)
  have e2 := (anew_Ys l (letN F l u k nm).2.2 ty (F := F)).len
  have h2 := renYs_w hF ty l (letN F l u k nm).2.2 hl (by omega)
  have e3 := (anew_Rs l (renYs F l (letN F l u k nm).2.2 ty).2 rh (F := F)).len
  have h3 := renRs_w rh l (renYs F l (letN F l u k nm).2.2 ty).2 hl (by omega)
  have e4 := (anew_Es (letN F l u k nm).2.1 (renRs F l (renYs F l (letN F l u k nm).2.2 ty).2 rh).2 bd (F := F)).len
  have h4 := renEs_w bd (letN F l u k nm).2.1 (renRs F l (renYs F l (letN F l u k nm).2.2 ty).2 rh).2 h1.1 (by omega)
  have h5 := renMs_w ar l (renEs F (letN F l u k nm).2.1 (renRs F l (renYs F l (letN F l u k nm).2.2 ty).2 rh).2 bd).2 hl (by omega)
  have h6 := renA_w hl am
  have h7 := h1.2
  simp only [renE, Exp.w]; omega
theorem renEs_w : ∀ (t : List Exp) (l : Bnd) (u : List ByteArray), LB l → u.length + (bEs t).length ≤ 1000000000 → expW (renEs F l u t).1 ≤ 61 * expW t
 | [], l, u, hl, h => Nat.le_refl _
 | p :: ps, l, u, hl, h => by
  simp only [bEs, List.length_append] at h
  have e := (anew_E l u p (F := F)).len
  have h1 := renE_w p l u hl (by omega)
  have h2 := renEs_w ps l (renE F l u p).2 hl (by omega)
  simp only [renEs, expW]; omega
theorem renR_w : ∀ (t : Rhs) (l : Bnd) (u : List ByteArray), LB l → u.length + (bR t).length ≤ 1000000000 → (renR F l u t).1.w ≤ 61 * t.w
 | .mk k nm ats ps rs bd ts, l, u, hl, h => by
  simp only [bR, List.length_append] at h
  have e1 := (anew_Ps l u ps (F := F)).len
  have b1 := lb_Ps hF ps l u hl (by omega)
  have h1 := renPs_w hF ps l u hl (by omega)
  have e2 := (anew_Ys (renPs F l u ps).2.1 (renPs F l u ps).2.2 rs (F := F)).len
  have h2 := renYs_w hF rs (renPs F l u ps).2.1 (renPs F l u ps).2.2 b1 (by omega)
  have h3 := renEs_w bd (renPs F l u ps).2.1 (renYs F (renPs F l u ps).2.1 (renPs F l u ps).2.2 rs).2 b1 (by omega)
  have h4 := renAs_w hl ats
  have h5 := renTs_w hl ts
  simp only [renR, Rhs.w]; omega
theorem renRs_w : ∀ (t : List Rhs) (l : Bnd) (u : List ByteArray), LB l → u.length + (bRs t).length ≤ 1000000000 → rhsW (renRs F l u t).1 ≤ 61 * rhsW t
 | [], l, u, hl, h => Nat.le_refl _
 | p :: ps, l, u, hl, h => by
  simp only [bRs, List.length_append] at h
  have e := (anew_R l u p (F := F)).len
  have h1 := renR_w p l u hl (by omega)
  have h2 := renRs_w ps l (renR F l u p).2 hl (by omega)
  simp only [renRs, rhsW]; omega
theorem renM_w : ∀ (t : Arm) (l : Bnd) (u : List ByteArray), LB l → u.length + (bM t).length ≤ 1000000000 → (renM F l u t).1.w ≤ 61 * t.w
 | .mk cn ns bd, l, u, hl, h => by
  simp only [bM, List.length_append] at h
  have e1 := (anew_Ns l u ns (F := F)).len
  have b1 := lb_Ns hF ns l u hl (by omega)
  have h1 := renNs_w hF ns l u (by omega)
  have h2 := renEs_w bd (renNs F l u ns).2.1 (renNs F l u ns).2.2 b1 (by omega)
  simp only [renM, Arm.w]; omega
theorem renMs_w : ∀ (t : List Arm) (l : Bnd) (u : List ByteArray), LB l → u.length + (bMs t).length ≤ 1000000000 → armW (renMs F l u t).1 ≤ 61 * armW t
 | [], l, u, hl, h => Nat.le_refl _
 | p :: ps, l, u, hl, h => by
  simp only [bMs, List.length_append] at h
  have e := (anew_M l u p (F := F)).len
  have h1 := renM_w p l u hl (by omega)
  have h2 := renMs_w ps l (renM F l u p).2 hl (by omega)
  simp only [renMs, armW]; omega
end
end
theorem renF_w (u : List ByteArray) : ∀ f : Fun, u.length + (bF f).length ≤ 1000000000 → (renF NFp u f).1.w ≤ 61 * f.w
 | .mk nm ps rs bd, h => by
  have hF : ∀ u s, u.length ≤ 1000000000 → (NFp.f u s).size ≤ 60 := fresh_size
  have hl : LB [] := fun p hp => by cases hp
  simp only [bF, List.length_append] at h
  have e1 := (anew_Ps [] u ps (F := NFp)).len
  have b1 := lb_Ps hF ps [] u hl (by omega)
  have h1 := renPs_w hF ps [] u hl (by omega)
  have e2 := (anew_Y (renPs NFp [] u ps).2.1 (renPs NFp [] u ps).2.2 rs (F := NFp)).len
  have h2 := renY_w hF rs (renPs NFp [] u ps).2.1 (renPs NFp [] u ps).2.2 b1 (by omega)
  have h3 := renE_w hF bd (renPs NFp [] u ps).2.1 (renY NFp (renPs NFp [] u ps).2.1 (renPs NFp [] u ps).2.2 rs).2 b1 (by omega)
  simp only [renF, Fun.w]; omega
end
end Go.Proofs.YteajcnilihgheaaGreatDoor
