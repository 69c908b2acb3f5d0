/-
 EV: the statements of layer 19: binders, lambda, long.
-/
import Derived.Test.YteajcnilihgheaaGreatDoorRb1M
import Derived.Test.YteajcnilihgheaaGreatDoorTFree2M
import Derived.Test.YteajcnilihgheaaGreatDoorTCntM
import Derived.Test.YteajcnilihgheaaGreatDoorKOfM
namespace Go.Proofs.YteajcnilihgheaaGreatDoor
set_option maxRecDepth 100000
set_option maxHeartbeats 8000000
set_option linter.unusedSimpArgs false
set_option linter.unusedVariables false
section
open Go.RowKit
variable {S : Sp} {N : Nat}
theorem exb_j (hc : S.code = codeP Tryz.prog) (hm0 : S.ms 35 = []) (hm2 : S.ms 34 = []) (hm : S.ms 36 = []) : ∀ n : Nat, n ≤ 1000000000 → ∀ l : List Exp, expN l ≤ n → EJ S N l := by
 intro n
 induction n with
 | zero => intro _ l h; exact exprs_j hc hm0 hm2 hm l (by omega) fun k nm ty rh am ar bd hx => by have := expN_mem hx; have := (Exp.mk k nm ty rh am ar bd).n_pos; omega
 | succ n ih =>
  intro hn l h
  refine exprs_j hc hm0 hm2 hm l (by omega) fun k nm ty rh am ar bd hx => ?_
  have h1 := expN_mem hx
  obtain ⟨amk, amnm, amng, amdg, amtr⟩ := am
  simp only [Exp.n] at h1
  refine ⟨ih (by omega) bd (by omega), fun k nm ats ps rs b ts hy => ?_, fun cn ns b hy => ?_⟩
  · have h2 := rhsN_mem hy
    simp only [Rhs.n] at h2
    exact ih (by omega) b (by omega)
  · have h2 := armN_mem hy
    simp only [Arm.n] at h2
    exact ih (by omega) b (by omega)
abbrev bindF : FS := smF (fun f : Fun => [.agg f.cs]) (fun f => .sl (txtR (bF f)) .no) (fun f => f.n ≤ 1000000000 ∧ (bF f).length ≤ 1000000000) (fun _ => 0) 0
theorem fun1_inj (a b : Fun) (e : [AV.agg a.cs] = [.agg b.cs]) : a = b := by simp only [List.cons.injEq, and_true, AV.agg.injEq] at e; exact Fun.inj e
theorem binders_w (hc : S.code = codeP Tryz.prog) (hm0 : S.ms 35 = []) (hm2 : S.ms 34 = []) (hm : S.ms 36 = []) (hm3 : S.ms 16 = []) : SmOk Tryz.prog S N 16 (fun f : Fun => [.agg f.cs]) (fun f => .sl (txtR (bF f)) .no) (fun f => f.n ≤ 1000000000 ∧ (bF f).length ≤ 1000000000) (fun _ => 0) 0 := by
 rintro f σ ⟨hn, hl⟩ hN
 obtain ⟨hTJ, hPJ⟩ := bind_j (N := N) hc hm0 hm2 1000000000 (Nat.le_refl _)
 have hEJ := exb_j (N := N) hc hm0 hm2 hm 1000000000 (Nat.le_refl _)
 refine JC.startG (fn := Tryz.f16) (codeOf hc Tryz.func16 rfl (by kernel_rfl)) rfl hm3 rfl (zL rfl) fun tm => ?_
 refine JD.hide fun R0 hR0 => ?_
 obtain ⟨nm, ps, ⟨rsfn, rsst, ⟨rsrfk, rsrfnm, rsrfng, rsrfdg, rsrfks⟩, rsps, rsrs⟩, ⟨bdk, bdnm, bdty, bdrh, ⟨bdamk, bdamnm, bdamng, bdamdg, bdamtr⟩, bdar, bdbd⟩⟩ := f
 simp only [Fun.n] at hn
 have hbF : bF (.mk nm ps (.mk rsfn rsst (.mk rsrfk rsrfnm rsrfng rsrfdg rsrfks) rsps rsrs) (.mk bdk bdnm bdty bdrh (.mk bdamk bdamnm bdamng bdamdg bdamtr) bdar bdbd)) = bPs ps ++ bYs [.mk rsfn rsst (.mk rsrfk rsrfnm rsrfng rsrfdg rsrfks) rsps rsrs] ++ bEs [.mk bdk bdnm bdty bdrh (.mk bdamk bdamnm bdamng bdamdg bdamtr) bdar bdbd] := by
  simp only [bF, bYs, bEs, List.append_nil]
 dsimp only at hl hR0
 rw [hbF] at hl hR0
 have h1 := hPJ ps (by omega)
 have h2 := hTJ [.mk rsfn rsst (.mk rsrfk rsrfnm rsrfng rsrfdg rsrfks) rsps rsrs] (by simp only [tyN, Ty.n]; omega)
 have h3 := hEJ [.mk bdk bdnm bdty bdrh (.mk bdamk bdamnm bdamng bdamdg bdamtr) bdar bdbd] (by simp only [expN, Exp.n]; omega)
 unfold TJ at h2
 unfold EJ at h3
 simp only [tyR, expR, Ty.cs, Exp.cs] at h2 h3
 generalize bYs [.mk rsfn rsst (.mk rsrfk rsrfnm rsrfng rsrfdg rsrfks) rsps rsrs] = by' at *
 generalize bEs [.mk bdk bdnm bdty bdrh (.mk bdamk bdamnm bdamng bdamdg bdamtr) bdar bdbd] = be at *
 simp only [List.length_append] at hl
 simp only [Fun.cs]
 refine JD.seqK fun K hK => J.cw (CW.region ?_)
 simp (maxDischargeDepth := 16) [zY]
 refine hK _ _ ?_; clear hK K
 have g0 : (σ ++ [AObj.cells [.lit (.string nm), .sl (prmR ps) .no, .lit (.bool rsfn), .lit (.string rsst), .lit (.int .u8 rsrfk), .lit (.string rsrfnm), .lit (.bool rsrfng), .sl (limR rsrfdg) .no, .sl (trmR rsrfks) .no, .sl (prmR rsps) .no, .sl (tyR rsrs) .no, .lit (.int .u8 bdk), .lit (.string bdnm), .sl (tyR bdty) .no, .sl (rhsR bdrh) .no, .lit (.int .u8 bdamk), .lit (.string bdamnm), .lit (.bool bdamng), .sl (limR bdamdg) .no, .lit (.bool bdamtr), .sl (armR bdar) .no, .sl (expR bdbd) .no] 58])[σ.length]? = some (AObj.cells [.lit (.string nm), .sl (prmR ps) .no, .lit (.bool rsfn), .lit (.string rsst), .lit (.int .u8 rsrfk), .lit (.string rsrfnm), .lit (.bool rsrfng), .sl (limR rsrfdg) .no, .sl (trmR rsrfks) .no, .sl (prmR rsps) .no, .sl (tyR rsrs) .no, .lit (.int .u8 bdk), .lit (.string bdnm), .sl (tyR bdty) .no, .sl (rhsR bdrh) .no, .lit (.int .u8 bdamk), .lit (.string bdamnm), .lit (.bool bdamng), .sl (limR bdamdg) .no, .lit (.bool bdamtr), .sl (armR bdar) .no, .sl (expR bdbd) .no] 58) := by simp
 have hk0 : ∀ (o : AObj) (p : Nat), p < σ.length → (σ ++ [o])[p]? = σ[p]? := fun o p hp => st_old hp
 have hl0 : ∀ o : AObj, (σ ++ [o]).length = σ.length + 1 := fun o => by simp
 generalize hP : σ.length = P at *
 have hka := hk0 (AObj.cells [.lit (.string nm), .sl (prmR ps) .no, .lit (.bool rsfn), .lit (.string rsst), .lit (.int .u8 rsrfk), .lit (.string rsrfnm), .lit (.bool rsrfng), .sl (limR rsrfdg) .no, .sl (trmR rsrfks) .no, .sl (prmR rsps) .no, .sl (tyR rsrs) .no, .lit (.int .u8 bdk), .lit (.string bdnm), .sl (tyR bdty) .no, .sl (rhsR bdrh) .no, .lit (.int .u8 bdamk), .lit (.string bdamnm), .lit (.bool bdamng), .sl (limR bdamdg) .no, .lit (.bool bdamtr), .sl (armR bdar) .no, .sl (expR bdbd) .no] 58)
 have hla := hl0 (AObj.cells [.lit (.string nm), .sl (prmR ps) .no, .lit (.bool rsfn), .lit (.string rsst), .lit (.int .u8 rsrfk), .lit (.string rsrfnm), .lit (.bool rsrfng), .sl (limR rsrfdg) .no, .sl (trmR rsrfks) .no, .sl (prmR rsps) .no, .sl (tyR rsrs) .no, .lit (.int .u8 bdk), .lit (.string bdnm), .sl (tyR bdty) .no, .sl (rhsR bdrh) .no, .lit (.int .u8 bdamk), .lit (.string bdamnm), .lit (.bool bdamng), .sl (limR bdamdg) .no, .lit (.bool bdamtr), .sl (armR bdar) .no, .sl (expR bdbd) .no] 58)
 clear hk0 hl0
 generalize σ ++ [_] = σa at *
 refine JD.keep [1] fun tm => ?_
 simp only [sel, List.contains_cons, List.contains_nil, Bool.or_false, Nat.reduceBEq, Bool.false_eq_true, if_false, if_true, Bool.or_true, Bool.true_or]
 refine JD.seqK fun K hK => JD.region ?_
 simp (maxDischargeDepth := 16) [zY, symL, g0]
 refine (h1 [] .full .no σa (.inl ⟨rfl, rfl⟩) (by simp only [List.length_nil]; omega)).mono ?_
 rintro r σb ⟨tok1, rfl, hG1⟩
 rw [List.nil_append] at *
 have g1 := hG1.get (m0 := 0) (.inl ⟨rfl, rfl⟩) g0
 simp only [List.length_nil, Nat.zero_add] at hG1
 simp (maxDischargeDepth := 16) [zY, symL]
 refine hK _ _ ?_; clear hK K
 refine JD.seqK fun K hK => JD.region ?_
 simp (maxDischargeDepth := 16) [zY, symL, g1]
 refine (h2 (bPs ps) tok1 .full σb hG1.t (by omega)).mono ?_
 rintro r σc ⟨tok2, rfl, hG2⟩
 have g2 := hG2.get hG1.t g1
 simp (maxDischargeDepth := 16) [zY, symL]
 refine hK _ _ ?_; clear hK K
 refine JD.seqK fun K hK => JD.region ?_
 simp (maxDischargeDepth := 16) [zY, symL, g2]
 refine (h3 (bPs ps ++ by') tok2 .full σc (by rw [List.length_append]; exact hG2.t) (by rw [List.length_append]; omega)).mono ?_
 rintro r σd ⟨tok3, rfl, hG3⟩
 simp (maxDischargeDepth := 16) [zY, symL]
 refine hK _ _ ?_; clear hK K
 have hG := (hG1.trans hG2).trans hG3
 have hgl := hG.len
 obtain ⟨g, hg⟩ := extOf (σ := σ) (σ' := σd) (by omega) fun p hp => (hG.keep p (by omega) (fun e => by cases e)).trans (hka p (by omega))
 rw [List.append_assoc] at hR0
 refine JD.ret (hR0 _ _ _ ⟨.sl (txtR (bPs ps ++ (by' ++ be))) tok3, by simp [zA, omap, zB, zF, lk], ?_⟩)
 rw [hg]
 exact done (by simp [AV.pln]) (by simp [AV.nrm])
abbrev lamF : FS := smF (fun f : Fun => [.agg f.cs]) (fun f => .agg (lamE f).cs) (fun _ => True) (fun _ => 0) 0
theorem lambda_w (hc : S.code = codeP Tryz.prog) (hm : S.ms 39 = []) : SmOk Tryz.prog S N 39 (fun f : Fun => [.agg f.cs]) (fun f => .agg (lamE f).cs) (fun _ => True) (fun _ => 0) 0 := by
 rintro f σ _ hN
 refine JC.startF (fn := Tryz.f39) (codeOf hc Tryz.func39 rfl (by kernel_rfl)) rfl hm rfl (zL rfl) fun tm => ?_
 refine CW.hide fun R0 hR0 => ?_
 obtain ⟨nm, ps, ⟨rsfn, rsst, ⟨rsrfk, rsrfnm, rsrfng, rsrfdg, rsrfks⟩, rsps, rsrs⟩, ⟨bdk, bdnm, bdty, bdrh, ⟨bdamk, bdamnm, bdamng, bdamdg, bdamtr⟩, bdar, bdbd⟩⟩ := f
 simp only [Fun.cs, lamE, Exp.cs, rhsR, Rhs.cs, atmR, tyR, Ty.cs, expR, trmR, armR, show limR [] = [] from rfl] at hR0 ⊢
 refine CW.seqK fun K hK => CW.region ?_
 simp (maxDischargeDepth := 16) [zY]
 refine hK _ _ ?_; clear hK K
 refine CW.seqK fun K hK => CW.region ?_
 simp (maxDischargeDepth := 16) [zY]
 refine hK _ _ ?_; clear hK K
 refine CW.seqK fun K hK => CW.region ?_
 simp (maxDischargeDepth := 16) [zY]
 refine hK _ _ ?_; clear hK K
 exact CW.ret (hR0 _ _ _ ⟨.agg [.lit (.int .u8 0), .lit (.string ⟨#[]⟩), .sl [] .full, .sl [[.lit (.int .u8 4), .lit (.string ⟨#[]⟩), .sl [] .full, .sl (prmR ps) .no, .sl [[.lit (.bool rsfn), .lit (.string rsst), .lit (.int .u8 rsrfk), .lit (.string rsrfnm), .lit (.bool rsrfng), .sl (limR rsrfdg) .no, .sl (trmR rsrfks) .no, .sl (prmR rsps) .no, .sl (tyR rsrs) .no]] .full, .sl [[.lit (.int .u8 bdk), .lit (.string bdnm), .sl (tyR bdty) .no, .sl (rhsR bdrh) .no, .lit (.int .u8 bdamk), .lit (.string bdamnm), .lit (.bool bdamng), .sl (limR bdamdg) .no, .lit (.bool bdamtr), .sl (armR bdar) .no, .sl (expR bdbd) .no]] .full, .sl [] .full]] .full, .lit (.int .u8 0), .lit (.string ⟨#[]⟩), .lit (.bool false), .sl [] .full, .lit (.bool false), .sl [] .full, .sl [] .full], by simp [zA, omap, zC, zX], done (by simp [AV.pln, plnR, plnRR, trmR_pln, prmR_pln, tyR_pln, rhsR_pln, armR_pln, expR_pln]) (by simp [AV.nrm, nrmR, nrmRR, trmR_nrm, prmR_nrm, tyR_nrm, rhsR_nrm, armR_nrm, expR_nrm, limR_nrm, show limR [] = [] from rfl])⟩)
end
section
open Go.RowKit
variable {S : Sp} {N : Nat}
theorem datas0 (hc : S.code = codeP Tryz.prog) (hs : S.sp 50 = none) (hb : S.base 50 = none) (hm : S.ms 50 = []) (m : Int) (σ : Sto) : CallW Tryz.prog (S.E N) 50 [.sl [] .full, intV m] σ fun r σ' => r = .ret (intV 0) ∧ σ' = σ := by
 refine CallW.startF (fn := Tryz.f50) (prim_none hs hb) (codeOf hc Tryz.func50 rfl (by kernel_rfl)) rfl hm rfl (zL rfl) fun tm => ?_
 refine CW.hide fun R0 hR0 => ?_
 refine CW.seqK fun K hK => CW.region ?_
 simp (maxDischargeDepth := 16) [zY]
 refine hK _ _ ?_; clear hK K
 refine CW.seqK fun K hK => CW.region ?_
 simp (maxDischargeDepth := 16) [zY]
 refine hK _ _ ?_; clear hK K
 refine CW.seqK fun KL hKL => ?_
 refine CW.seqK fun K hK => CW.region ?_
 simp (maxDischargeDepth := 16) [zY]
 refine hK _ _ ?_; clear hK K
 refine CW.block (CW.hide fun R hR => ?_)
 refine CW.loopF (fun p : Unit => [(0, .sl [] .full), (1, intV m), (5, intV 0), (6, intV 0)]) (fun _ => σ) (fun _ => True) (fun _ => 0) () (by simp [sub, lk]) rfl trivial ?_
 rintro _ tm _
 refine CW.hide fun R2 hR2 => CW.seqK fun K4 hK4 => ?_
 refine CW.seqK fun K hK => CW.region ?_
 simp (maxDischargeDepth := 16) [zY]
 refine hK _ _ ?_; clear hK K
 refine CW.cond (t := false) (by simp [zT, zF, lk]) ?_
 refine CW.exit (hR2 _ _ _ (hR _ _ _ ?_))
 simp only [outOf, if_true]
 refine hKL _ _ ?_
 refine CW.seqK fun K hK => CW.region ?_
 simp (maxDischargeDepth := 16) [zY]
 refine hK _ _ ?_; clear hK K
 exact CW.ret (hR0 _ _ _ ⟨intV 0, by simp [zA, omap, zB, zF, lk], rfl, rfl⟩)
theorem proofs0 (hc : S.code = codeP Tryz.prog) (hs : S.sp 55 = none) (hb : S.base 55 = none) (hm : S.ms 55 = []) (m : Int) (σ : Sto) : CallW Tryz.prog (S.E N) 55 [.sl [] .full, intV m] σ fun r σ' => r = .ret (intV 0) ∧ σ' = σ := by
 refine CallW.startF (fn := Tryz.f55) (prim_none hs hb) (codeOf hc Tryz.func55 rfl (by kernel_rfl)) rfl hm rfl (zL rfl) fun tm => ?_
 refine CW.hide fun R0 hR0 => ?_
 refine CW.seqK fun K hK => CW.region ?_
 simp (maxDischargeDepth := 16) [zY]
 refine hK _ _ ?_; clear hK K
 refine CW.seqK fun K hK => CW.region ?_
 simp (maxDischargeDepth := 16) [zY]
 refine hK _ _ ?_; clear hK K
 refine CW.seqK fun KL hKL => ?_
 refine CW.seqK fun K hK => CW.region ?_
 simp (maxDischargeDepth := 16) [zY]
 refine hK _ _ ?_; clear hK K
 refine CW.block (CW.hide fun R hR => ?_)
 refine CW.loopF (fun p : Unit => [(0, .sl [] .full), (1, intV m), (5, intV 0), (6, intV 0)]) (fun _ => σ) (fun _ => True) (fun _ => 0) () (by simp [sub, lk]) rfl trivial ?_
 rintro _ tm _
 refine CW.hide fun R2 hR2 => CW.seqK fun K4 hK4 => ?_
 refine CW.seqK fun K hK => CW.region ?_
 simp (maxDischargeDepth := 16) [zY]
 refine hK _ _ ?_; clear hK K
 refine CW.cond (t := false) (by simp [zT, zF, lk]) ?_
 refine CW.exit (hR2 _ _ _ (hR _ _ _ ?_))
 simp only [outOf, if_true]
 refine hKL _ _ ?_
 refine CW.seqK fun K hK => CW.region ?_
 simp (maxDischargeDepth := 16) [zY]
 refine hK _ _ ?_; clear hK K
 exact CW.ret (hR0 _ _ _ ⟨intV 0, by simp [zA, omap, zB, zF, lk], rfl, rfl⟩)
def Fun.sm : Fun → Prop
 | .mk nm ps rs bd => (ps.length ≤ 140737488355328 ∧ prmSm ps) ∧ rs.sm ∧ bd.sm
theorem prog_e (hc : S.code = codeP Tryz.prog) (hds : S.sp 50 = none) (hdb : S.base 50 = none) (hdm : S.ms 50 = []) (hps : S.sp 55 = none) (hpb : S.base 55 = none) (hpm : S.ms 55 = [])
    (hs : S.sp 28 = none) (hb : S.base 28 = none) (hm : S.ms 28 = []) (h1 : S.sp 52 = some prmsGoF) (h2 : S.sp 53 = some tysGoF) (h3 : S.sp 54 = some expsGoF) (f : Fun) (hn : f.n ≤ 1000000000) (hsm : f.sm) (hN : 16 * f.n + 8 < N) (σ : Sto) :
    CallW Tryz.prog (S.E N) 28 [.agg [.sl [] .full, .sl [] .full, .sl [f.cs] .full, .sl [] .full], intV 2000] σ fun r σ' => (∃ n : Int, r = .ret (intV n)) ∧ ∃ g, σ' = σ ++ g := by
 refine CallW.startF (fn := Tryz.f28) (prim_none hs hb) (codeOf hc Tryz.func28 rfl (by kernel_rfl)) rfl hm rfl (zL rfl) fun tm => ?_
 refine CW.hide fun R0 hR0 => ?_
 obtain ⟨nm, ps, ⟨rsfn, rsst, ⟨rsrfk, rsrfnm, rsrfng, rsrfdg, rsrfks⟩, rsps, rsrs⟩, ⟨bdk, bdnm, bdty, bdrh, ⟨bdamk, bdamnm, bdamng, bdamdg, bdamtr⟩, bdar, bdbd⟩⟩ := f
 simp only [Fun.n] at hn hN
 obtain ⟨s1, s2, s3⟩ := hsm
 have hpc := fun (n : Int) (σ : Sto) (Q : ARes → Sto → Prop) (args : List AV) => call_sm (P := Tryz.prog) (N := N) (σ := σ) (Q := Q) (args := args) (ps, n) h1 prmsGo_inj
 have htc := fun (n : Int) (σ : Sto) (Q : ARes → Sto → Prop) (args : List AV) => call_sm (P := Tryz.prog) (N := N) (σ := σ) (Q := Q) (args := args) ([Ty.mk rsfn rsst (.mk rsrfk rsrfnm rsrfng rsrfdg rsrfks) rsps rsrs], n) h2 tysGo_inj
 have hec := fun (n : Int) (σ : Sto) (Q : ARes → Sto → Prop) (args : List AV) => call_sm (P := Tryz.prog) (N := N) (σ := σ) (Q := Q) (args := args) ([Exp.mk bdk bdnm bdty bdrh (.mk bdamk bdamnm bdamng bdamdg bdamtr) bdar bdbd], n) h3 expsGo_inj
 have p1 : tyN [Ty.mk rsfn rsst (.mk rsrfk rsrfnm rsrfng rsrfdg rsrfks) rsps rsrs] + 2 ≤ 1 + prmN ps + rsrfdg.length + trmN rsrfks + prmN rsps + tyN rsrs + tyN bdty + rhsN bdrh + bdamdg.length + armN bdar + expN bdbd + 2 := by simp only [tyN, Ty.n]; omega
 have p2 : expN [Exp.mk bdk bdnm bdty bdrh (.mk bdamk bdamnm bdamng bdamdg bdamtr) bdar bdbd] + 2 ≤ 1 + prmN ps + rsrfdg.length + trmN rsrfks + prmN rsps + tyN rsrs + tyN bdty + rhsN bdrh + bdamdg.length + armN bdar + expN bdbd + 2 := by simp only [expN, Exp.n]; omega
 have q1 : tySm [Ty.mk rsfn rsst (.mk rsrfk rsrfnm rsrfng rsrfdg rsrfks) rsps rsrs] := ⟨s2, trivial⟩
 have q2 : expSm [Exp.mk bdk bdnm bdty bdrh (.mk bdamk bdamnm bdamng bdamdg bdamtr) bdar bdbd] := ⟨s3, trivial⟩
 have e1 : AV.sl (tyR [Ty.mk rsfn rsst (.mk rsrfk rsrfnm rsrfng rsrfdg rsrfks) rsps rsrs]) .no = .sl [[.lit (.bool rsfn), .lit (.string rsst), .lit (.int .u8 rsrfk), .lit (.string rsrfnm), .lit (.bool rsrfng), .sl (limR rsrfdg) .no, .sl (trmR rsrfks) .no, .sl (prmR rsps) .no, .sl (tyR rsrs) .no]] .no := by simp only [tyR, Ty.cs]
 have e2 : AV.sl (expR [Exp.mk bdk bdnm bdty bdrh (.mk bdamk bdamnm bdamng bdamdg bdamtr) bdar bdbd]) .no = .sl [[.lit (.int .u8 bdk), .lit (.string bdnm), .sl (tyR bdty) .no, .sl (rhsR bdrh) .no, .lit (.int .u8 bdamk), .lit (.string bdamnm), .lit (.bool bdamng), .sl (limR bdamdg) .no, .lit (.bool bdamtr), .sl (armR bdar) .no, .sl (expR bdbd) .no]] .no := by simp only [expR, Exp.cs]
 dsimp only at hpc htc hec
 rw [e1] at htc
 rw [e2] at hec
 generalize tyN [Ty.mk rsfn rsst (.mk rsrfk rsrfnm rsrfng rsrfdg rsrfks) rsps rsrs] = nt at *
 generalize expN [Exp.mk bdk bdnm bdty bdrh (.mk bdamk bdamnm bdamng bdamdg bdamtr) bdar bdbd] = ne at *
 have hn3 : ∀ n : Int, ∃ x : Int, tysGo [Ty.mk rsfn rsst (.mk rsrfk rsrfnm rsrfng rsrfdg rsrfks) rsps rsrs] n 0 = x := fun n => ⟨_, rfl⟩
 simp only [Fun.cs]
 refine CW.seqK fun K hK => CW.region ?_
 simp (maxDischargeDepth := 16) [zY]
 refine hK _ _ ?_; clear hK K
 have g0 : (σ ++ [AObj.cells [.sl [] .full, .sl [] .full, .sl [[.lit (.string nm), .sl (prmR ps) .no, .lit (.bool rsfn), .lit (.string rsst), .lit (.int .u8 rsrfk), .lit (.string rsrfnm), .lit (.bool rsrfng), .sl (limR rsrfdg) .no, .sl (trmR rsrfks) .no, .sl (prmR rsps) .no, .sl (tyR rsrs) .no, .lit (.int .u8 bdk), .lit (.string bdnm), .sl (tyR bdty) .no, .sl (rhsR bdrh) .no, .lit (.int .u8 bdamk), .lit (.string bdamnm), .lit (.bool bdamng), .sl (limR bdamdg) .no, .lit (.bool bdamtr), .sl (armR bdar) .no, .sl (expR bdbd) .no]] .full, .sl [] .full] 91])[σ.length]? = some (AObj.cells [.sl [] .full, .sl [] .full, .sl [[.lit (.string nm), .sl (prmR ps) .no, .lit (.bool rsfn), .lit (.string rsst), .lit (.int .u8 rsrfk), .lit (.string rsrfnm), .lit (.bool rsrfng), .sl (limR rsrfdg) .no, .sl (trmR rsrfks) .no, .sl (prmR rsps) .no, .sl (tyR rsrs) .no, .lit (.int .u8 bdk), .lit (.string bdnm), .sl (tyR bdty) .no, .sl (rhsR bdrh) .no, .lit (.int .u8 bdamk), .lit (.string bdamnm), .lit (.bool bdamng), .sl (limR bdamdg) .no, .lit (.bool bdamtr), .sl (armR bdar) .no, .sl (expR bdbd) .no]] .full, .sl [] .full] 91) := by simp
 have hex : ∃ g, σ ++ [AObj.cells [.sl [] .full, .sl [] .full, .sl [[.lit (.string nm), .sl (prmR ps) .no, .lit (.bool rsfn), .lit (.string rsst), .lit (.int .u8 rsrfk), .lit (.string rsrfnm), .lit (.bool rsrfng), .sl (limR rsrfdg) .no, .sl (trmR rsrfks) .no, .sl (prmR rsps) .no, .sl (tyR rsrs) .no, .lit (.int .u8 bdk), .lit (.string bdnm), .sl (tyR bdty) .no, .sl (rhsR bdrh) .no, .lit (.int .u8 bdamk), .lit (.string bdamnm), .lit (.bool bdamng), .sl (limR bdamdg) .no, .lit (.bool bdamtr), .sl (armR bdar) .no, .sl (expR bdbd) .no]] .full, .sl [] .full] 91] = σ ++ g := ⟨_, rfl⟩
 generalize σ.length = P at *
 generalize σ ++ [_] = σa at *
 refine CW.keep [1, 2] fun tm => ?_
 simp only [sel, List.contains_cons, List.contains_nil, Bool.or_false, Nat.reduceBEq, Bool.false_eq_true, if_false, if_true, Bool.or_true, Bool.true_or]
 refine CW.seqK fun K hK => CW.region ?_
 simp (maxDischargeDepth := 16) [zY, g0]
 refine (datas0 hc hds hdb hdm 2000 σa).mono ?_
 rintro r σ1 ⟨rfl, rfl⟩
 simp (maxDischargeDepth := 16) [zY]
 refine hK _ _ ?_; clear hK K
 refine CW.seqK fun KL hKL => ?_
 refine CW.seqK fun K hK => CW.region ?_
 simp (maxDischargeDepth := 16) [zY]
 refine hK _ _ ?_; clear hK K
 refine CW.block (CW.hide fun R hR => ?_)
 refine CW.loopF (fun _ : Unit => [(1, intV 2000), (2, .ptr P 0), (5, intV 0), (6, intV 0)]) (fun _ => σ1) (fun _ => True) (fun _ => 0) () (by simp [sub, lk]) rfl trivial ?_
 rintro _ tm _
 refine CW.hide fun R2 hR2 => CW.seqK fun K4 hK4 => ?_
 refine CW.seqK fun K hK => CW.region ?_
 simp (maxDischargeDepth := 16) [zY, g0]
 refine hK _ _ ?_; clear hK K
 refine CW.cond (t := false) (by simp [zT, zF, lk]) ?_
 refine CW.exit (hR2 _ _ _ (hR _ _ _ ?_))
 simp only [outOf, if_true]
 refine hKL _ _ ?_
 clear hKL hR hR2
 refine CW.keep [1, 2, 5] fun tm => ?_
 simp only [sel, List.contains_cons, List.contains_nil, Bool.or_false, Nat.reduceBEq, Bool.false_eq_true, if_false, if_true, Bool.or_true, Bool.true_or]
 refine CW.seqK fun KL hKL => ?_
 refine CW.seqK fun K hK => CW.region ?_
 simp (maxDischargeDepth := 16) [zY]
 refine hK _ _ ?_; clear hK K
 refine CW.block (CW.hide fun R hR => ?_)
 refine CW.loopF (fun p : Nat × Int => [(1, intV 2000), (2, .ptr P 0), (5, intV p.2), (7, intV p.1)]) (fun _ => σ1) (fun p => p.1 ≤ 1) (fun p => 1 - p.1) (0, 0) (by simp [sub, lk]) rfl (by simp) ?_
 rintro ⟨i, n⟩ tm hi
 dsimp only at hi ⊢
 refine CW.hide fun R2 hR2 => CW.seqK fun K4 hK4 => ?_
 have fin : ∀ (i : Nat) (n : Int) (fr : List (Nat × AV)) (tm : List AV), sub [(1, intV 2000), (2, .ptr P 0), (5, intV n), (7, intV i)] fr → R2 (.exit 2) (fm 114 fr tm) σ1 := by
  intro i n fr tm hfr
  rw [fm_sub hfr]
  refine hR2 _ _ _ (hR _ _ _ ?_)
  simp only [outOf, if_true]
  refine hKL _ _ ?_
  refine CW.seqK fun K hK => ?_
  have fin2 : ∀ (n : Int) (fr : List (Nat × AV)) (tm : List AV), sub [(5, intV n)] fr → K (fm 114 fr tm) σ1 := by
   intro n fr tm hfr
   rw [fm_sub hfr]
   refine hK _ _ ?_
   refine CW.seqK fun K hK => CW.region ?_
   simp (maxDischargeDepth := 16) [zY]
   refine hK _ _ ?_; clear hK K
   exact CW.ret (hR0 _ _ _ ⟨intV n, by simp [zA, omap, zB, zF, lk], ⟨n, rfl⟩, hex⟩)
  rcases Classical.em (n ≤ 2000) with h | h
  · have h' := eq_true h
    refine CW.seqK fun K hK => CW.region ?_
    simp (maxDischargeDepth := 16) [zY, h']
    refine hK _ _ ?_; clear hK K
    refine CW.cond (t := true) (by simp [zT, zF, lk, h']) ?_
    refine CW.region ?_
    simp (maxDischargeDepth := 16) [zY, g0]
    refine (proofs0 hc hps hpb hpm _ σ1).mono ?_
    rintro r σ2 ⟨rfl, rfl⟩
    simp (maxDischargeDepth := 16) [zY]
    exact fin2 _ _ _ ⟨fun _ => rfl, trivial⟩
  · have h' := eq_false h
    refine CW.seqK fun K hK => CW.region ?_
    simp (maxDischargeDepth := 16) [zY, h']
    refine hK _ _ ?_; clear hK K
    refine CW.cond (t := false) (by simp [zT, zF, lk, h']) ?_
    exact CW.skip (fin2 n _ _ (by simp [sub, lk]))
 clear hKL hR
 rcases Nat.lt_or_ge i 1 with hlt | hge
 · obtain rfl : i = 0 := by omega
   rcases Classical.em (n ≤ 2000) with h | h
   · have h' := eq_true h
     refine CW.seqK fun K hK => CW.region ?_
     simp (maxDischargeDepth := 16) [zY, g0, h']
     refine hK _ _ ?_; clear hK K
     refine CW.cond (t := true) (by simp [zT, zF, lk, h']) ?_
     refine CW.skip (hK4 _ _ ?_)
     refine CW.keep [1, 2, 5, 7] fun tm => ?_
     simp only [sel, List.contains_cons, List.contains_nil, Bool.or_false, Nat.reduceBEq, Bool.false_eq_true, if_false, if_true, Bool.or_true, Bool.true_or]
     refine CW.seqK fun K5 hK5 => CW.block ?_
     have fin3 : ∀ (n : Int) (fr : List (Nat × AV)) (tm : List AV), sub [(1, intV 2000), (2, .ptr P 0), (5, intV n), (7, intV (0 : Nat))] fr → K5 (fm 114 fr tm) σ1 := by
      intro n fr tm hfr
      rw [fm_sub hfr]
      refine hK5 _ _ (CW.region ?_)
      simp (maxDischargeDepth := 16) [zY, show IntKind.i64.wrap 1 = 1 from rfl]
      exact hR2 _ _ _ ⟨(1, n), _, _, rfl, by simp [sub, lk], rfl, Nat.le_refl _, show 1 - 1 < 1 - 0 by omega⟩
     clear hK5 hR2
     refine CW.seqK fun K hK => CW.region ?_
     simp (maxDischargeDepth := 16) [zY, g0]
     refine hpc _ _ _ _ (by simp only [nrmR, AV.nrm, prmR_nrm]; rfl) s1 (by omega) fun _ => ?_
     simp (maxDischargeDepth := 16) [zY]
     refine hK _ _ ?_; clear hK K
     generalize hna : IntKind.i64.wrap _ = na
     refine CW.keep [1, 2, 5, 7] fun tm => ?_
     simp only [sel, List.contains_cons, List.contains_nil, Bool.or_false, Nat.reduceBEq, Bool.false_eq_true, if_false, if_true, Bool.or_true, Bool.true_or]
     refine CW.seqK fun K hK => ?_
     have fin4 : ∀ (n : Int) (fr : List (Nat × AV)) (tm : List AV), sub [(1, intV 2000), (2, .ptr P 0), (5, intV n), (7, intV (0 : Nat))] fr → K (fm 114 fr tm) σ1 := by
      intro n fr tm hfr
      rw [fm_sub hfr]
      refine hK _ _ ?_
      rcases Classical.em (n ≤ 2000) with h | h
      · have h' := eq_true h
        refine CW.seqK fun K hK => CW.region ?_
        simp (maxDischargeDepth := 16) [zY, h']
        refine hK _ _ ?_; clear hK K
        refine CW.cond (t := true) (by simp [zT, zF, lk, h']) ?_
        refine CW.region ?_
        simp (maxDischargeDepth := 16) [zY, g0]
        refine hec _ _ _ _ (by simp only [nrmR, AV.nrm, nrmRR, tyR_nrm, rhsR_nrm, limR_nrm, armR_nrm, expR_nrm]; rfl) ⟨by simp, q2⟩ (by omega) fun _ => ?_
        simp (maxDischargeDepth := 16) [zY]
        exact fin3 _ _ _ ⟨fun _ => rfl, fun _ => rfl, fun _ => rfl, fun _ => rfl, trivial⟩
      · have h' := eq_false h
        refine CW.seqK fun K hK => CW.region ?_
        simp (maxDischargeDepth := 16) [zY, h']
        refine hK _ _ ?_; clear hK K
        refine CW.cond (t := false) (by simp [zT, zF, lk, h']) ?_
        exact CW.skip (fin3 n _ _ (by simp [sub, lk]))
     rcases Classical.em (na ≤ 2000) with h | h
     · have h' := eq_true h
       refine CW.seqK fun K hK => CW.region ?_
       simp (maxDischargeDepth := 16) [zY, h']
       refine hK _ _ ?_; clear hK K
       refine CW.cond (t := true) (by simp [zT, zF, lk, h']) ?_
       refine CW.region ?_
       simp (maxDischargeDepth := 16) [zY, g0]
       refine htc _ _ _ _ (by simp only [nrmR, AV.nrm, nrmRR, tyR_nrm, limR_nrm, trmR_nrm, prmR_nrm]; rfl) ⟨by simp, q1⟩ (by omega) fun _ => ?_
       simp (maxDischargeDepth := 16) [zY]
       exact fin4 _ _ _ ⟨fun _ => rfl, fun _ => rfl, fun _ => rfl, fun _ => rfl, trivial⟩
     · have h' := eq_false h
       refine CW.seqK fun K hK => CW.region ?_
       simp (maxDischargeDepth := 16) [zY, h']
       refine hK _ _ ?_; clear hK K
       refine CW.cond (t := false) (by simp [zT, zF, lk, h']) ?_
       exact CW.skip (fin4 na _ _ (by simp [sub, lk]))
   · have h' := eq_false h
     refine CW.seqK fun K hK => CW.region ?_
     simp (maxDischargeDepth := 16) [zY, g0, h']
     refine hK _ _ ?_; clear hK K
     refine CW.cond (t := false) (by simp [zT, zF, lk, h']) ?_
     exact CW.exit (fin 0 n _ _ (by simp [sub, lk]))
 · obtain rfl : i = 1 := by omega
   refine CW.seqK fun K hK => CW.region ?_
   simp (maxDischargeDepth := 16) [zY, g0]
   refine hK _ _ ?_; clear hK K
   refine CW.cond (t := false) (by simp [zT, zF, lk]) ?_
   exact CW.exit (fin 1 n _ _ (by simp [sub, lk]))
end
section
open Go.RowKit
variable {S : Sp} {N : Nat}
theorem long_e (hc : S.code = codeP Tryz.prog) (hs : S.sp 29 = none) (hb : S.base 29 = none) (hm : S.ms 29 = []) (f : Fun) (hn : f.n ≤ 1000000000) (σ : Sto) :
    CallW Tryz.prog (S.E N) 29 [.agg f.cs] σ fun r σ' => (∃ b : Bool, r = .ret (.lit (.bool b))) ∧ ∃ g, σ' = σ ++ g := by
 refine CallW.startF (fn := Tryz.f29) (prim_none hs hb) (codeOf hc Tryz.func29 rfl (by kernel_rfl)) rfl hm rfl (zL rfl) fun tm => ?_
 refine CW.hide fun R0 hR0 => ?_
 obtain ⟨nm, ps, ⟨rsfn, rsst, ⟨rsrfk, rsrfnm, rsrfng, rsrfdg, rsrfks⟩, rsps, rsrs⟩, ⟨bdk, bdnm, bdty, bdrh, ⟨bdamk, bdamnm, bdamng, bdamdg, bdamtr⟩, bdar, bdbd⟩⟩ := f
 simp only [Fun.n] at hn
 have hpl := prmN_len ps
 simp only [Fun.cs]
 refine CW.seqK fun K hK => CW.region ?_
 simp (maxDischargeDepth := 16) [zY]
 refine hK _ _ ?_; clear hK K
 have g0 : (σ ++ [AObj.cells [.lit (.string nm), .sl (prmR ps) .no, .lit (.bool rsfn), .lit (.string rsst), .lit (.int .u8 rsrfk), .lit (.string rsrfnm), .lit (.bool rsrfng), .sl (limR rsrfdg) .no, .sl (trmR rsrfks) .no, .sl (prmR rsps) .no, .sl (tyR rsrs) .no, .lit (.int .u8 bdk), .lit (.string bdnm), .sl (tyR bdty) .no, .sl (rhsR bdrh) .no, .lit (.int .u8 bdamk), .lit (.string bdamnm), .lit (.bool bdamng), .sl (limR bdamdg) .no, .lit (.bool bdamtr), .sl (armR bdar) .no, .sl (expR bdbd) .no] 58])[σ.length]? = some (AObj.cells [.lit (.string nm), .sl (prmR ps) .no, .lit (.bool rsfn), .lit (.string rsst), .lit (.int .u8 rsrfk), .lit (.string rsrfnm), .lit (.bool rsrfng), .sl (limR rsrfdg) .no, .sl (trmR rsrfks) .no, .sl (prmR rsps) .no, .sl (tyR rsrs) .no, .lit (.int .u8 bdk), .lit (.string bdnm), .sl (tyR bdty) .no, .sl (rhsR bdrh) .no, .lit (.int .u8 bdamk), .lit (.string bdamnm), .lit (.bool bdamng), .sl (limR bdamdg) .no, .lit (.bool bdamtr), .sl (armR bdar) .no, .sl (expR bdbd) .no] 58) := by simp
 have hex : ∃ g, σ ++ [AObj.cells [.lit (.string nm), .sl (prmR ps) .no, .lit (.bool rsfn), .lit (.string rsst), .lit (.int .u8 rsrfk), .lit (.string rsrfnm), .lit (.bool rsrfng), .sl (limR rsrfdg) .no, .sl (trmR rsrfks) .no, .sl (prmR rsps) .no, .sl (tyR rsrs) .no, .lit (.int .u8 bdk), .lit (.string bdnm), .sl (tyR bdty) .no, .sl (rhsR bdrh) .no, .lit (.int .u8 bdamk), .lit (.string bdamnm), .lit (.bool bdamng), .sl (limR bdamdg) .no, .lit (.bool bdamtr), .sl (armR bdar) .no, .sl (expR bdbd) .no] 58] = σ ++ g := ⟨_, rfl⟩
 generalize σ.length = P at *
 generalize σ ++ [_] = σa at *
 refine CW.keep [1] fun tm => ?_
 simp only [sel, List.contains_cons, List.contains_nil, Bool.or_false, Nat.reduceBEq, Bool.false_eq_true, if_false, if_true, Bool.or_true, Bool.true_or]
 refine CW.seqK fun KL hKL => ?_
 refine CW.seqK fun K hK => CW.region ?_
 simp (maxDischargeDepth := 16) [zY]
 refine hK _ _ ?_; clear hK K
 refine CW.block (CW.hide fun R hR => ?_)
 refine CW.loopF (fun p : Nat => [(1, .ptr P 0), (3, intV p)]) (fun _ => σa) (fun p => p ≤ ps.length) (fun p => ps.length - p) 0 (by simp [sub, lk]) rfl (Nat.zero_le _) ?_
 intro i tm hi
 refine CW.hide fun R2 hR2 => CW.seqK fun K4 hK4 => ?_
 rcases Nat.lt_or_ge i ps.length with hlt | hge
 · have ha := prmR_get hlt
   refine CW.seqK fun K hK => CW.region ?_
   simp (maxDischargeDepth := 16) [zY, g0, hlt]
   refine hK _ _ ?_; clear hK K
   refine CW.cond (t := true) (by simp [zT, zF, lk]) ?_
   refine CW.skip (hK4 _ _ ?_)
   refine CW.seqK fun K5 hK5 => CW.block ?_
   generalize ps[i] = x at *
   obtain ⟨pn, ⟨fn, st0, ⟨rfk, rfnm, rfng, rfdg, rfks⟩, tps, trs⟩⟩ := x
   simp only [Prm.cs] at ha
   rcases Classical.em (2000 < (pn.size : Int)) with h | h
   · have h' := eq_true h
     refine CW.seqK fun K hK => CW.region ?_
     simp (maxDischargeDepth := 16) [zY, g0, ha, h']
     refine hK _ _ ?_; clear hK K
     refine CW.cond (t := true) (by simp [zT, zF, lk, h']) ?_
     refine CW.seqK fun K hK => CW.region ?_
     simp (maxDischargeDepth := 16) [zY]
     refine hK _ _ ?_; clear hK K
     exact CW.ret (hR2 _ _ _ (hR _ _ _ (hR0 _ _ _ ⟨.lit (.bool true), by simp [zA, omap, zB, zF, lk], ⟨true, rfl⟩, hex⟩)))
   · have h' := eq_false h
     refine CW.seqK fun K hK => CW.region ?_
     simp (maxDischargeDepth := 16) [zY, g0, ha, h']
     refine hK _ _ ?_; clear hK K
     refine CW.cond (t := false) (by simp [zT, zF, lk, h']) ?_
     refine CW.skip (hK5 _ _ (CW.region ?_))
     simp (maxDischargeDepth := 16) [zY, wrap_succ (show i ≤ 1000000000000 by omega)]
     exact hR2 _ _ _ ⟨i + 1, _, _, rfl, by simp [sub, lk], rfl, hlt, show ps.length - (i + 1) < ps.length - i by omega⟩
 · refine CW.seqK fun K hK => CW.region ?_
   simp (maxDischargeDepth := 16) [zY, g0, Nat.not_lt.2 hge]
   refine hK _ _ ?_; clear hK K
   refine CW.cond (t := false) (by simp [zT, zF, lk]) ?_
   refine CW.exit (hR2 _ _ _ (hR _ _ _ ?_))
   simp only [outOf, if_true]
   refine hKL _ _ ?_
   refine CW.seqK fun K hK => CW.region ?_
   simp (maxDischargeDepth := 16) [zY, g0]
   refine hK _ _ ?_; clear hK K
   exact CW.ret (hR0 _ _ _ ⟨.lit (.bool _), by simp [zA, omap, zB, zF, lk]; rfl, ⟨_, rfl⟩, hex⟩)
structure GrH (S : Sp) : Prop where
 code : S.code = codeP Tryz.prog
 ds : S.sp 50 = none
 db : S.base 50 = none
 dm : S.ms 50 = []
 ps : S.sp 55 = none
 pb : S.base 55 = none
 pm : S.ms 55 = []
 gs : S.sp 28 = none
 gb : S.base 28 = none
 gm : S.ms 28 = []
 h1 : S.sp 52 = some prmsGoF
 h2 : S.sp 53 = some tysGoF
 h3 : S.sp 54 = some expsGoF
 ls : S.sp 29 = none
 lb : S.base 29 = none
 lm : S.ms 29 = []
 rs : S.sp 14 = none
 rb : S.base 14 = none
 rm : S.ms 14 = []
theorem great_e (H : GrH S) (u : List ByteArray) (tk : Tok) (hul : u.length ≤ 1000000000) (f : Fun) (hn : f.n ≤ 1000000000) (hsm : f.sm) (hN : 16 * f.n + 8 < N) (σ : Sto) :
    CallW Tryz.prog (S.E N) 14 [.sl (txtR u) tk, .agg f.cs] σ fun r σ' => (∃ b : Bool, r = .ret (.lit (.bool b))) ∧ ∃ g, σ' = σ ++ g := by
 refine CallW.startF (fn := Tryz.f14) (prim_none H.rs H.rb) (codeOf H.code Tryz.func14 rfl (by kernel_rfl)) rfl H.rm rfl (zL rfl) fun tm => ?_
 refine CW.hide fun R0 hR0 => ?_
 have hpr := fun σ => prog_e (N := N) H.code H.ds H.db H.dm H.ps H.pb H.pm H.gs H.gb H.gm H.h1 H.h2 H.h3 f hn hsm hN σ
 have hlo := fun σ => long_e (N := N) H.code H.ls H.lb H.lm f hn σ
 obtain ⟨nm, ps, ⟨rsfn, rsst, ⟨rsrfk, rsrfnm, rsrfng, rsrfdg, rsrfks⟩, rsps, rsrs⟩, ⟨bdk, bdnm, bdty, bdrh, ⟨bdamk, bdamnm, bdamng, bdamdg, bdamtr⟩, bdar, bdbd⟩⟩ := f
 simp only [Fun.cs] at hpr hlo ⊢
 refine CW.seqK fun K hK => CW.region ?_
 simp (maxDischargeDepth := 16) [zY]
 refine hK _ _ ?_; clear hK K
 have g0 : (σ ++ [AObj.cells [.lit (.string nm), .sl (prmR ps) .no, .lit (.bool rsfn), .lit (.string rsst), .lit (.int .u8 rsrfk), .lit (.string rsrfnm), .lit (.bool rsrfng), .sl (limR rsrfdg) .no, .sl (trmR rsrfks) .no, .sl (prmR rsps) .no, .sl (tyR rsrs) .no, .lit (.int .u8 bdk), .lit (.string bdnm), .sl (tyR bdty) .no, .sl (rhsR bdrh) .no, .lit (.int .u8 bdamk), .lit (.string bdamnm), .lit (.bool bdamng), .sl (limR bdamdg) .no, .lit (.bool bdamtr), .sl (armR bdar) .no, .sl (expR bdbd) .no] 58])[σ.length]? = some (AObj.cells [.lit (.string nm), .sl (prmR ps) .no, .lit (.bool rsfn), .lit (.string rsst), .lit (.int .u8 rsrfk), .lit (.string rsrfnm), .lit (.bool rsrfng), .sl (limR rsrfdg) .no, .sl (trmR rsrfks) .no, .sl (prmR rsps) .no, .sl (tyR rsrs) .no, .lit (.int .u8 bdk), .lit (.string bdnm), .sl (tyR bdty) .no, .sl (rhsR bdrh) .no, .lit (.int .u8 bdamk), .lit (.string bdamnm), .lit (.bool bdamng), .sl (limR bdamdg) .no, .lit (.bool bdamtr), .sl (armR bdar) .no, .sl (expR bdbd) .no] 58) := by simp
 have hex : ∃ g, σ ++ [AObj.cells [.lit (.string nm), .sl (prmR ps) .no, .lit (.bool rsfn), .lit (.string rsst), .lit (.int .u8 rsrfk), .lit (.string rsrfnm), .lit (.bool rsrfng), .sl (limR rsrfdg) .no, .sl (trmR rsrfks) .no, .sl (prmR rsps) .no, .sl (tyR rsrs) .no, .lit (.int .u8 bdk), .lit (.string bdnm), .sl (tyR bdty) .no, .sl (rhsR bdrh) .no, .lit (.int .u8 bdamk), .lit (.string bdamnm), .lit (.bool bdamng), .sl (limR bdamdg) .no, .lit (.bool bdamtr), .sl (armR bdar) .no, .sl (expR bdbd) .no] 58] = σ ++ g := ⟨_, rfl⟩
 generalize σ.length = P at *
 generalize σ ++ [_] = σa at *
 refine CW.keep [0, 3] fun tm => ?_
 simp only [sel, List.contains_cons, List.contains_nil, Bool.or_false, Nat.reduceBEq, Bool.false_eq_true, if_false, if_true, Bool.or_true, Bool.true_or]
 refine CW.seqK fun K hK => CW.region ?_
 simp (maxDischargeDepth := 16) [zY]
 refine hK _ _ ?_; clear hK K
 refine CW.seqK fun KL hKL => ?_
 refine CW.seqK fun K hK => CW.region ?_
 simp (maxDischargeDepth := 16) [zY]
 refine hK _ _ ?_; clear hK K
 refine CW.block (CW.hide fun R hR => ?_)
 refine CW.loopF (fun p : Nat × Int => [(0, .sl (txtR u) tk), (3, .ptr P 0), (5, intV p.2), (6, intV p.1)]) (fun _ => σa) (fun p => p.1 ≤ u.length) (fun p => u.length - p.1) (0, (u.length : Int)) (by simp [sub, lk]) rfl (Nat.zero_le _) ?_
 rintro ⟨i, n⟩ tm hi
 dsimp only at hi ⊢
 refine CW.hide fun R2 hR2 => CW.seqK fun K4 hK4 => ?_
 have fin : ∀ (fr : List (Nat × AV)) (tm : List AV), sub [(0, .sl (txtR u) tk), (3, .ptr P 0), (5, intV n)] fr → R2 (.exit 0) (fm 40 fr tm) σa := by
  intro fr tm hfr
  rw [fm_sub hfr]
  refine hR2 _ _ _ (hR _ _ _ ?_)
  simp only [outOf, if_true]
  refine hKL _ _ ?_
  refine CW.seqK fun K hK => CW.region ?_
  obtain ⟨ga, hga⟩ := hex
  rcases Classical.em (n ≤ 2000) with h | h
  · have h' : decide (2000 < n) = false := decide_eq_false (by omega)
    simp (maxDischargeDepth := 16) [zY, g0, h']
    refine (hpr σa).mono ?_
    rintro r σb ⟨⟨m, rfl⟩, g, hg⟩
    have g1 : σb[P]? = some (AObj.cells [.lit (.string nm), .sl (prmR ps) .no, .lit (.bool rsfn), .lit (.string rsst), .lit (.int .u8 rsrfk), .lit (.string rsrfnm), .lit (.bool rsrfng), .sl (limR rsrfdg) .no, .sl (trmR rsrfks) .no, .sl (prmR rsps) .no, .sl (tyR rsrs) .no, .lit (.int .u8 bdk), .lit (.string bdnm), .sl (tyR bdty) .no, .sl (rhsR bdrh) .no, .lit (.int .u8 bdamk), .lit (.string bdamnm), .lit (.bool bdamng), .sl (limR bdamdg) .no, .lit (.bool bdamtr), .sl (armR bdar) .no, .sl (expR bdbd) .no] 58) := by rw [hg]; exact (st_old (List.getElem?_eq_some_iff.1 g0).1).trans g0
    rcases Classical.em (m ≤ 2000) with h2 | h2
    · have h2' : decide (2000 < m) = false := decide_eq_false (by omega)
      simp (maxDischargeDepth := 16) [zY, g1, h', h2']
      refine (hlo σb).mono ?_
      rintro r σc ⟨⟨b, rfl⟩, g', hg'⟩
      simp (maxDischargeDepth := 16) [zY, h', h2']
      refine hK _ _ ?_; clear hK K
      refine CW.ret (hR0 _ _ _ ⟨.lit (.bool b), by simp [zA, omap, zB, zF, lk], ⟨_, rfl⟩, ga ++ (g ++ g'), by rw [hg', hg, hga]; simp⟩)
    · have h2' : decide (2000 < m) = true := decide_eq_true (by omega)
      simp (maxDischargeDepth := 16) [zY, g1, h', h2']
      refine hK _ _ ?_; clear hK K
      refine CW.ret (hR0 _ _ _ ⟨.lit (.bool true), by simp [zA, omap, zB, zF, lk], ⟨_, rfl⟩, ga ++ g, by rw [hg, hga]; simp⟩)
  · have h' : decide (2000 < n) = true := decide_eq_true (by omega)
    simp (maxDischargeDepth := 16) [zY, g0, h']
    refine hK _ _ ?_; clear hK K
    refine CW.ret (hR0 _ _ _ ⟨.lit (.bool true), by simp [zA, omap, zB, zF, lk], ⟨_, rfl⟩, ga, hga⟩)
 rcases Nat.lt_or_ge i u.length with hlt | hge
 · have ha := txtR_get hlt
   rcases Classical.em (n ≤ 2000) with h | h
   · have h' := eq_true h
     refine CW.seqK fun K hK => CW.region ?_
     simp (maxDischargeDepth := 16) [zY, hlt, h']
     refine hK _ _ ?_; clear hK K
     refine CW.cond (t := true) (by simp [zT, zF, lk, h']) ?_
     refine CW.skip (hK4 _ _ ?_)
     refine CW.seqK fun K5 hK5 => CW.block ?_
     refine CW.region ?_
     simp (maxDischargeDepth := 16) [zY, ha]
     refine hK5 _ _ (CW.region ?_)
     simp (maxDischargeDepth := 16) [zY, wrap_succ (show i ≤ 1000000000000 by omega)]
     exact hR2 _ _ _ ⟨(i + 1, _), _, _, rfl, ⟨fun _ => rfl, fun _ => rfl, fun _ => rfl, fun _ => rfl, trivial⟩, rfl, hlt, show u.length - (i + 1) < u.length - i by omega⟩
   · have h' := eq_false h
     refine CW.seqK fun K hK => CW.region ?_
     simp (maxDischargeDepth := 16) [zY, hlt, h']
     refine hK _ _ ?_; clear hK K
     refine CW.cond (t := false) (by simp [zT, zF, lk, h']) ?_
     exact CW.exit (fin _ _ (by simp [sub, lk]))
 · refine CW.seqK fun K hK => CW.region ?_
   simp (maxDischargeDepth := 16) [zY, Nat.not_lt.2 hge]
   refine hK _ _ ?_; clear hK K
   refine CW.cond (t := false) (by simp [zT, zF, lk]) ?_
   exact CW.exit (fin _ _ (by simp [sub, lk]))
end
end Go.Proofs.YteajcnilihgheaaGreatDoor
