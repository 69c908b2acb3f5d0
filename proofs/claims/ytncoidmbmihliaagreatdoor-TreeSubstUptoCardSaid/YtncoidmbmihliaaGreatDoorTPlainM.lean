/-
 EV: the statements' own functions: terms, atoms, types, params (printed by gen_plain.py)
-/
import Derived.Test.YtncoidmbmihliaaGreatDoorTBoundM
namespace Go.Proofs.YtncoidmbmihliaaGreatDoor
set_option maxRecDepth 100000
set_option maxHeartbeats 8000000
set_option linter.unusedSimpArgs false
set_option linter.unusedVariables false
section
open Go.RowKit
variable {S : Sp} {N : Nat}
theorem lterms_w (hc : S.code = codeP Tryz.prog) (hm : S.ms 38 = []) (h_terms : S.sp 38 = some ltermsF) : PureOk Tryz.prog S N 38 (fun l : List Trm => [.sl (trmR l) .no]) (fun l => .lit (.bool (trmPl l))) trmN 0 := by
 intro l σ hll hN
 refine JC.startF (fn := Tryz.f38) (codeOf hc Tryz.func38 rfl (by kernel_rfl)) rfl hm rfl (zL rfl) fun tm => ?_
 refine CW.hide fun R0 hR0 => ?_
 have hlen := trmN_len l
 refine CW.seqK fun K hK => CW.region ?_
 simp (maxDischargeDepth := 16) [zY]
 refine hK _ _ ?_; clear hK K
 refine CW.seqK fun K hK => ?_
 refine CW.seqK fun K hK => CW.region ?_
 simp (maxDischargeDepth := 16) [zY]
 refine hK _ _ ?_; clear hK K
 refine CW.block (CW.hide fun R hR => ?_)
 refine CW.loopF (fun i : Nat => [(0, .sl (trmR l) .no), (3, intV i)]) (fun _ => σ) (fun i => i ≤ l.length ∧ trmPl l = trmPl (l.drop i)) (fun i => l.length - i) 0 (by simp [sub, lk]) rfl ⟨by simp, by simp⟩ ?_
 rintro i tm ⟨hi, hg⟩
 try dsimp only at hi hg ⊢
 refine CW.hide fun R2 hR2 => CW.seqK fun K3 hK3 => CW.seqK fun K4 hK4 => CW.region ?_
 rcases Nat.lt_or_ge i l.length with hlt | hge
 · have ha := trmR_get hlt
   have hgn := trmN_get hlt
   rw [List.drop_eq_getElem_cons hlt, trmPl] at hg
   generalize l[i] = x at hgn ha hg
   simp (maxDischargeDepth := 16) [zY, hlt]
   refine hK4 _ _ ?_
   refine CW.cond (t := true) (by simp [zT, zF, lk]) ?_
   refine CW.skip (hK3 _ _ ?_)
   refine CW.seqK fun K5 hK5 => CW.block (CW.seqK fun K6 hK6 => CW.region ?_)
   have fin : ∀ (b : Bool) (fr : List (Nat × AV)) (tm : List AV), x.pl = !b → sub [(0, .sl (trmR l) .no), (3, intV i), (51, .lit (.bool b))] fr → K6 (fm 52 fr tm) σ := by
    intro b fr tm hb hs
    rw [fm_sub hs]
    refine hK6 _ _ ?_
    cases b with
    | true =>
     refine CW.cond (t := true) (by simp [zT, zF, lk]) ?_
     refine CW.seqK fun K hK => CW.region ?_
     simp (maxDischargeDepth := 16) [zY]
     refine hK _ _ ?_; clear hK K
     have h0 : trmPl l = false := by rw [hg, hb]; rfl
     exact CW.ret (hR2 _ _ _ (hR _ _ _ (hR0 _ _ _ ⟨.lit (.bool false), by simp [zA, omap, zB, zF, lk], by show Fgt _ _ _ (.ret (.lit (.bool (trmPl l)))) _; rw [h0]; exact done0 rfl rfl⟩)))
    | false =>
     refine CW.cond (t := false) (by simp [zT, zF, lk]) ?_
     refine CW.skip (hK5 _ _ ?_)
     refine CW.region ?_
     simp (maxDischargeDepth := 16) [zY, wrapS (show i ≤ 1000000000000000 by omega)]
     exact hR2 _ _ _ ⟨i + 1, _, _, rfl, by simp [sub, lk], rfl, ⟨by show i + 1 ≤ _; omega, by rw [hg, hb]; rfl⟩, by show l.length - (i + 1) < l.length - i; omega⟩
   have c_terms : ∀ (t : Tok) (a : List Trm) (σ2 : Sto) (Q : ARes → Sto → Prop), trmN a ≤ 1000000000 → 16 * trmN a + 0 < N → Q (.ret (.lit (.bool (trmPl a)))) σ2 → CallW Tryz.prog (S.E N) 38 [.sl (trmR a) t] σ2 Q := fun t a σ2 Q h1 h2 hq => call_pure a h_terms ltrm_inj (by simp only [nrmR, AV.nrm, trmR_nrm]) h1 h2 fun _ => hq
   obtain ⟨k, nm, ng, dg, ks⟩ := x
   simp only [Trm.n] at hgn
   simp only [Trm.cs] at ha
   have hkl := trmR_len ks
   rcases Classical.em (k = 1) with hk | hk
   · have hk' := eq_true hk
     cases ks with
     | cons y ys =>
      have hne : ((ys.length : Int) + 1 = 0) = False := eq_false (by omega)
      simp (maxDischargeDepth := 16) [zY, ha, hk', trmR, List.length_cons, hne]
      exact fin true _ _ (by simp [Trm.pl, hk]) (by simp [sub, lk])
     | nil =>
      cases dg with
      | cons y ys =>
       have hne : ((ys.length : Int) + 1 = 0) = False := eq_false (by omega)
       simp (maxDischargeDepth := 16) [zY, ha, hk', trmR, limR, List.length_cons, hne]
       exact fin true _ _ (by simp [Trm.pl, hk]) (by simp [sub, lk])
      | nil =>
       cases ng with
       | true =>
        simp (maxDischargeDepth := 16) [zY, ha, hk', trmR, limR]
        exact fin true _ _ (by simp [Trm.pl, hk]) (by simp [sub, lk])
       | false =>
        simp (maxDischargeDepth := 16) [zY, ha, hk', trmR, limR]
        refine c_terms _ [] _ _ (by simp only [trmN]; omega) (by simp only [trmN]; omega) ?_
        simp (maxDischargeDepth := 16) [zY, trmPl]
        exact fin false _ _ (by simp [Trm.pl, hk, trmPl]) (by simp [sub, lk])
   · simp (maxDischargeDepth := 16) [zY, ha, hk]
     refine c_terms _ ks _ _ (by omega) (by omega) ?_
     generalize hb : trmPl ks = b
     simp (maxDischargeDepth := 16) [zY]
     exact fin (!b) _ _ (by simp [Trm.pl, hk, hb]) (by simp [sub, lk])
 · obtain rfl : i = l.length := by omega
   rw [List.drop_length, trmPl] at hg
   simp (maxDischargeDepth := 16) [zY]
   refine hK4 _ _ ?_
   refine CW.cond (t := false) (by simp [zT, zF, lk]) ?_
   refine CW.exit (hR2 _ _ _ (hR _ _ _ ?_))
   simp only [outOf, if_true, andThen]
   refine hK _ _ ?_
   refine CW.seqK fun K hK => CW.region ?_
   simp (maxDischargeDepth := 16) [zY]
   refine hK _ _ ?_; clear hK K
   exact CW.ret (hR0 _ _ _ ⟨.lit (.bool true), by simp [zA, omap, zB, zF, lk], by show Fgt _ _ _ (.ret (.lit (.bool (trmPl l)))) _; rw [hg]; exact done0 rfl rfl⟩)
theorem latoms_w (hc : S.code = codeP Tryz.prog) (hm : S.ms 35 = []) : PureOk Tryz.prog S N 35 (fun l : List Atm => [.sl (atmR l) .no]) (fun l => .lit (.bool (atmPl l))) atmN 0 := by
 intro l σ hll hN
 refine JC.startF (fn := Tryz.f35) (codeOf hc Tryz.func35 rfl (by kernel_rfl)) rfl hm rfl (zL rfl) fun tm => ?_
 refine CW.hide fun R0 hR0 => ?_
 have hlen := atmN_len l
 refine CW.seqK fun K hK => CW.region ?_
 simp (maxDischargeDepth := 16) [zY]
 refine hK _ _ ?_; clear hK K
 refine CW.seqK fun K hK => ?_
 refine CW.seqK fun K hK => CW.region ?_
 simp (maxDischargeDepth := 16) [zY]
 refine hK _ _ ?_; clear hK K
 refine CW.block (CW.hide fun R hR => ?_)
 refine CW.loopF (fun i : Nat => [(0, .sl (atmR l) .no), (3, intV i)]) (fun _ => σ) (fun i => i ≤ l.length ∧ atmPl l = atmPl (l.drop i)) (fun i => l.length - i) 0 (by simp [sub, lk]) rfl ⟨by simp, by simp⟩ ?_
 rintro i tm ⟨hi, hg⟩
 try dsimp only at hi hg ⊢
 refine CW.hide fun R2 hR2 => CW.seqK fun K3 hK3 => CW.seqK fun K4 hK4 => CW.region ?_
 rcases Nat.lt_or_ge i l.length with hlt | hge
 · have ha := atmR_get hlt
   have hgn := atmN_get hlt
   rw [List.drop_eq_getElem_cons hlt, atmPl] at hg
   generalize l[i] = x at hgn ha hg
   simp (maxDischargeDepth := 16) [zY, hlt]
   refine hK4 _ _ ?_
   refine CW.cond (t := true) (by simp [zT, zF, lk]) ?_
   refine CW.skip (hK3 _ _ ?_)
   refine CW.seqK fun K5 hK5 => CW.block (CW.seqK fun K6 hK6 => CW.region ?_)
   have fin : ∀ (b : Bool) (fr : List (Nat × AV)) (tm : List AV), x.pl = !b → sub [(0, .sl (atmR l) .no), (3, intV i), (40, .lit (.bool b))] fr → K6 (fm 41 fr tm) σ := by
    intro b fr tm hb hs
    rw [fm_sub hs]
    refine hK6 _ _ ?_
    cases b with
    | true =>
     refine CW.cond (t := true) (by simp [zT, zF, lk]) ?_
     refine CW.seqK fun K hK => CW.region ?_
     simp (maxDischargeDepth := 16) [zY]
     refine hK _ _ ?_; clear hK K
     have h0 : atmPl l = false := by rw [hg, hb]; rfl
     exact CW.ret (hR2 _ _ _ (hR _ _ _ (hR0 _ _ _ ⟨.lit (.bool false), by simp [zA, omap, zB, zF, lk], by show Fgt _ _ _ (.ret (.lit (.bool (atmPl l)))) _; rw [h0]; exact done0 rfl rfl⟩)))
    | false =>
     refine CW.cond (t := false) (by simp [zT, zF, lk]) ?_
     refine CW.skip (hK5 _ _ ?_)
     refine CW.region ?_
     simp (maxDischargeDepth := 16) [zY, wrapS (show i ≤ 1000000000000000 by omega)]
     exact hR2 _ _ _ ⟨i + 1, _, _, rfl, by simp [sub, lk], rfl, ⟨by show i + 1 ≤ _; omega, by rw [hg, hb]; rfl⟩, by show l.length - (i + 1) < l.length - i; omega⟩
   obtain ⟨k, nm, ng, dg, tr⟩ := x
   simp only [Atm.cs] at ha
   rcases Classical.em (k = 1) with hk | hk
   · have hk' := eq_true hk
     cases tr with
     | true =>
      simp (maxDischargeDepth := 16) [zY, ha, hk']
      exact fin true _ _ (by simp [Atm.pl, hk]) (by simp [sub, lk])
     | false =>
      cases dg with
      | cons y ys =>
       have hne : ((ys.length : Int) + 1 = 0) = False := eq_false (by omega)
       simp (maxDischargeDepth := 16) [zY, ha, hk', limR, List.length_cons, hne]
       exact fin true _ _ (by simp [Atm.pl, hk]) (by simp [sub, lk])
      | nil =>
       simp (maxDischargeDepth := 16) [zY, ha, hk', limR]
       exact fin ng _ _ (by simp [Atm.pl, hk]) (by simp [sub, lk])
   · simp (maxDischargeDepth := 16) [zY, ha, hk]
     exact fin false _ _ (by simp [Atm.pl, hk]) (by simp [sub, lk])
 · obtain rfl : i = l.length := by omega
   rw [List.drop_length, atmPl] at hg
   simp (maxDischargeDepth := 16) [zY]
   refine hK4 _ _ ?_
   refine CW.cond (t := false) (by simp [zT, zF, lk]) ?_
   refine CW.exit (hR2 _ _ _ (hR _ _ _ ?_))
   simp only [outOf, if_true, andThen]
   refine hK _ _ ?_
   refine CW.seqK fun K hK => CW.region ?_
   simp (maxDischargeDepth := 16) [zY]
   refine hK _ _ ?_; clear hK K
   exact CW.ret (hR0 _ _ _ ⟨.lit (.bool true), by simp [zA, omap, zB, zF, lk], by show Fgt _ _ _ (.ret (.lit (.bool (atmPl l)))) _; rw [hg]; exact done0 rfl rfl⟩)
theorem ltypes_w (hc : S.code = codeP Tryz.prog) (hm : S.ms 36 = []) (h_terms : S.sp 38 = some ltermsF) (h_params : S.sp 37 = some lparamsF) (h_types : S.sp 36 = some ltypesF) : PureOk Tryz.prog S N 36 (fun l : List Ty => [.sl (tyR l) .no]) (fun l => .lit (.bool (tyPl l))) tyN 1 := by
 intro l σ hll hN
 refine JC.startF (fn := Tryz.f36) (codeOf hc Tryz.func36 rfl (by kernel_rfl)) rfl hm rfl (zL rfl) fun tm => ?_
 refine CW.hide fun R0 hR0 => ?_
 have hlen := tyN_len l
 refine CW.seqK fun K hK => CW.region ?_
 simp (maxDischargeDepth := 16) [zY]
 refine hK _ _ ?_; clear hK K
 refine CW.seqK fun K hK => ?_
 refine CW.seqK fun K hK => CW.region ?_
 simp (maxDischargeDepth := 16) [zY]
 refine hK _ _ ?_; clear hK K
 refine CW.block (CW.hide fun R hR => ?_)
 refine CW.loopF (fun i : Nat => [(0, .sl (tyR l) .no), (3, intV i)]) (fun _ => σ) (fun i => i ≤ l.length ∧ tyPl l = tyPl (l.drop i)) (fun i => l.length - i) 0 (by simp [sub, lk]) rfl ⟨by simp, by simp⟩ ?_
 rintro i tm ⟨hi, hg⟩
 try dsimp only at hi hg ⊢
 refine CW.hide fun R2 hR2 => CW.seqK fun K3 hK3 => CW.seqK fun K4 hK4 => CW.region ?_
 rcases Nat.lt_or_ge i l.length with hlt | hge
 · have ha := tyR_get hlt
   have hgn := tyN_get hlt
   rw [List.drop_eq_getElem_cons hlt, tyPl] at hg
   generalize l[i] = x at hgn ha hg
   simp (maxDischargeDepth := 16) [zY, hlt]
   refine hK4 _ _ ?_
   refine CW.cond (t := true) (by simp [zT, zF, lk]) ?_
   refine CW.skip (hK3 _ _ ?_)
   refine CW.seqK fun K5 hK5 => CW.block (CW.seqK fun K6 hK6 => CW.region ?_)
   have fin : ∀ (b : Bool) (fr : List (Nat × AV)) (tm : List AV), x.pl = !b → sub [(0, .sl (tyR l) .no), (3, intV i), (35, .lit (.bool b))] fr → K6 (fm 36 fr tm) σ := by
    intro b fr tm hb hs
    rw [fm_sub hs]
    refine hK6 _ _ ?_
    cases b with
    | true =>
     refine CW.cond (t := true) (by simp [zT, zF, lk]) ?_
     refine CW.seqK fun K hK => CW.region ?_
     simp (maxDischargeDepth := 16) [zY]
     refine hK _ _ ?_; clear hK K
     have h0 : tyPl l = false := by rw [hg, hb]; rfl
     exact CW.ret (hR2 _ _ _ (hR _ _ _ (hR0 _ _ _ ⟨.lit (.bool false), by simp [zA, omap, zB, zF, lk], by show Fgt _ _ _ (.ret (.lit (.bool (tyPl l)))) _; rw [h0]; exact done0 rfl rfl⟩)))
    | false =>
     refine CW.cond (t := false) (by simp [zT, zF, lk]) ?_
     refine CW.skip (hK5 _ _ ?_)
     refine CW.region ?_
     simp (maxDischargeDepth := 16) [zY, wrapS (show i ≤ 1000000000000000 by omega)]
     exact hR2 _ _ _ ⟨i + 1, _, _, rfl, by simp [sub, lk], rfl, ⟨by show i + 1 ≤ _; omega, by rw [hg, hb]; rfl⟩, by show l.length - (i + 1) < l.length - i; omega⟩
   have c_terms : ∀ (t : Tok) (a : List Trm) (σ2 : Sto) (Q : ARes → Sto → Prop), trmN a ≤ 1000000000 → 16 * trmN a + 0 < N → Q (.ret (.lit (.bool (trmPl a)))) σ2 → CallW Tryz.prog (S.E N) 38 [.sl (trmR a) t] σ2 Q := fun t a σ2 Q h1 h2 hq => call_pure a h_terms ltrm_inj (by simp only [nrmR, AV.nrm, trmR_nrm]) h1 h2 fun _ => hq
   have c_params : ∀ (t : Tok) (a : List Prm) (σ2 : Sto) (Q : ARes → Sto → Prop), prmN a ≤ 1000000000 → 16 * prmN a + 2 < N → Q (.ret (.lit (.bool (prmPl a)))) σ2 → CallW Tryz.prog (S.E N) 37 [.sl (prmR a) t] σ2 Q := fun t a σ2 Q h1 h2 hq => call_pure a h_params lprm_inj (by simp only [nrmR, AV.nrm, prmR_nrm]) h1 h2 fun _ => hq
   have c_types : ∀ (t : Tok) (a : List Ty) (σ2 : Sto) (Q : ARes → Sto → Prop), tyN a ≤ 1000000000 → 16 * tyN a + 1 < N → Q (.ret (.lit (.bool (tyPl a)))) σ2 → CallW Tryz.prog (S.E N) 36 [.sl (tyR a) t] σ2 Q := fun t a σ2 Q h1 h2 hq => call_pure a h_types lty_inj (by simp only [nrmR, AV.nrm, tyR_nrm]) h1 h2 fun _ => hq
   obtain ⟨fn, st, ⟨rk, rnm, rng, rdg, rks⟩, ps, rs⟩ := x
   have hpos := hgn
   simp only [Ty.n] at hgn
   simp only [Ty.cs] at ha
   have hrf : ∀ t, (.sl [[.lit (.int .u8 rk), .lit (.string rnm), .lit (.bool rng), .sl (limR rdg) .no, .sl (trmR rks) .no]] t : AV) = .sl (trmR [Trm.mk rk rnm rng rdg rks]) t := fun t => rfl
   simp (maxDischargeDepth := 16) [zY, ha]
   rw [hrf]
   refine c_terms _ [Trm.mk rk rnm rng rdg rks] _ _ (by simp only [trmN, Trm.n]; omega) (by simp only [trmN, Trm.n]; omega) ?_
   have hp0 : trmPl [Trm.mk rk rnm rng rdg rks] = (Trm.mk rk rnm rng rdg rks).pl := by simp [trmPl]
   rw [hp0]
   have hpl : (Ty.mk fn st (.mk rk rnm rng rdg rks) ps rs).pl = ((Trm.mk rk rnm rng rdg rks).pl && prmPl ps && tyPl rs) := by rw [Ty.pl]
   rw [hpl] at fin
   generalize (Trm.mk rk rnm rng rdg rks).pl = b1 at fin ⊢
   cases b1 with
   | false =>
    simp (maxDischargeDepth := 16) [zY]
    exact fin true _ _ (by simp) (by simp [sub, lk])
   | true =>
    simp (maxDischargeDepth := 16) [zY, ha]
    refine c_params _ ps _ _ (by omega) (by omega) ?_
    generalize prmPl ps = b2 at fin ⊢
    cases b2 with
    | false =>
     simp (maxDischargeDepth := 16) [zY]
     exact fin true _ _ (by simp) (by simp [sub, lk])
    | true =>
     simp (maxDischargeDepth := 16) [zY, ha]
     refine c_types _ rs _ _ (by omega) (by omega) ?_
     generalize tyPl rs = b3 at fin ⊢
     simp (maxDischargeDepth := 16) [zY]
     exact fin (!b3) _ _ (by simp) (by simp [sub, lk])
 · obtain rfl : i = l.length := by omega
   rw [List.drop_length, tyPl] at hg
   simp (maxDischargeDepth := 16) [zY]
   refine hK4 _ _ ?_
   refine CW.cond (t := false) (by simp [zT, zF, lk]) ?_
   refine CW.exit (hR2 _ _ _ (hR _ _ _ ?_))
   simp only [outOf, if_true, andThen]
   refine hK _ _ ?_
   refine CW.seqK fun K hK => CW.region ?_
   simp (maxDischargeDepth := 16) [zY]
   refine hK _ _ ?_; clear hK K
   exact CW.ret (hR0 _ _ _ ⟨.lit (.bool true), by simp [zA, omap, zB, zF, lk], by show Fgt _ _ _ (.ret (.lit (.bool (tyPl l)))) _; rw [hg]; exact done0 rfl rfl⟩)
theorem lparams_w (hc : S.code = codeP Tryz.prog) (hm : S.ms 37 = []) (h_types : S.sp 36 = some ltypesF) : PureOk Tryz.prog S N 37 (fun l : List Prm => [.sl (prmR l) .no]) (fun l => .lit (.bool (prmPl l))) prmN 2 := by
 intro l σ hll hN
 refine JC.startF (fn := Tryz.f37) (codeOf hc Tryz.func37 rfl (by kernel_rfl)) rfl hm rfl (zL rfl) fun tm => ?_
 refine CW.hide fun R0 hR0 => ?_
 have hlen := prmN_len l
 refine CW.seqK fun K hK => CW.region ?_
 simp (maxDischargeDepth := 16) [zY]
 refine hK _ _ ?_; clear hK K
 refine CW.seqK fun K hK => ?_
 refine CW.seqK fun K hK => CW.region ?_
 simp (maxDischargeDepth := 16) [zY]
 refine hK _ _ ?_; clear hK K
 refine CW.block (CW.hide fun R hR => ?_)
 refine CW.loopF (fun i : Nat => [(0, .sl (prmR l) .no), (3, intV i)]) (fun _ => σ) (fun i => i ≤ l.length ∧ prmPl l = prmPl (l.drop i)) (fun i => l.length - i) 0 (by simp [sub, lk]) rfl ⟨by simp, by simp⟩ ?_
 rintro i tm ⟨hi, hg⟩
 try dsimp only at hi hg ⊢
 refine CW.hide fun R2 hR2 => CW.seqK fun K3 hK3 => CW.seqK fun K4 hK4 => CW.region ?_
 rcases Nat.lt_or_ge i l.length with hlt | hge
 · have ha := prmR_get hlt
   have hgn := prmN_get hlt
   rw [List.drop_eq_getElem_cons hlt, prmPl] at hg
   generalize l[i] = x at hgn ha hg
   simp (maxDischargeDepth := 16) [zY, hlt]
   refine hK4 _ _ ?_
   refine CW.cond (t := true) (by simp [zT, zF, lk]) ?_
   refine CW.skip (hK3 _ _ ?_)
   refine CW.seqK fun K5 hK5 => CW.block (CW.seqK fun K6 hK6 => CW.region ?_)
   have fin : ∀ (b : Bool) (fr : List (Nat × AV)) (tm : List AV), x.pl = !b → sub [(0, .sl (prmR l) .no), (3, intV i), (17, .lit (.bool b))] fr → K6 (fm 18 fr tm) σ := by
    intro b fr tm hb hs
    rw [fm_sub hs]
    refine hK6 _ _ ?_
    cases b with
    | true =>
     refine CW.cond (t := true) (by simp [zT, zF, lk]) ?_
     refine CW.seqK fun K hK => CW.region ?_
     simp (maxDischargeDepth := 16) [zY]
     refine hK _ _ ?_; clear hK K
     have h0 : prmPl l = false := by rw [hg, hb]; rfl
     exact CW.ret (hR2 _ _ _ (hR _ _ _ (hR0 _ _ _ ⟨.lit (.bool false), by simp [zA, omap, zB, zF, lk], by show Fgt _ _ _ (.ret (.lit (.bool (prmPl l)))) _; rw [h0]; exact done0 rfl rfl⟩)))
    | false =>
     refine CW.cond (t := false) (by simp [zT, zF, lk]) ?_
     refine CW.skip (hK5 _ _ ?_)
     refine CW.region ?_
     simp (maxDischargeDepth := 16) [zY, wrapS (show i ≤ 1000000000000000 by omega)]
     exact hR2 _ _ _ ⟨i + 1, _, _, rfl, by simp [sub, lk], rfl, ⟨by show i + 1 ≤ _; omega, by rw [hg, hb]; rfl⟩, by show l.length - (i + 1) < l.length - i; omega⟩
   have c_types : ∀ (t : Tok) (a : List Ty) (σ2 : Sto) (Q : ARes → Sto → Prop), tyN a ≤ 1000000000 → 16 * tyN a + 1 < N → Q (.ret (.lit (.bool (tyPl a)))) σ2 → CallW Tryz.prog (S.E N) 36 [.sl (tyR a) t] σ2 Q := fun t a σ2 Q h1 h2 hq => call_pure a h_types lty_inj (by simp only [nrmR, AV.nrm, tyR_nrm]) h1 h2 fun _ => hq
   obtain ⟨nm, ⟨fn, st, ⟨rk, rnm, rng, rdg, rks⟩, ps, rs⟩⟩ := x
   have hpn : (Prm.mk nm ⟨fn, st, ⟨rk, rnm, rng, rdg, rks⟩, ps, rs⟩).n = (Ty.mk fn st ⟨rk, rnm, rng, rdg, rks⟩ ps rs).n := Prm.n_eq _ _
   simp only [Prm.cs] at ha
   simp (maxDischargeDepth := 16) [zY, ha]
   refine c_types _ [Ty.mk fn st ⟨rk, rnm, rng, rdg, rks⟩ ps rs] _ _ (by simp only [tyN]; omega) (by simp only [tyN]; omega) ?_
   have hp0 : tyPl [Ty.mk fn st ⟨rk, rnm, rng, rdg, rks⟩ ps rs] = (Ty.mk fn st ⟨rk, rnm, rng, rdg, rks⟩ ps rs).pl := by simp [tyPl]
   rw [hp0]
   have hpl : (Prm.mk nm (Ty.mk fn st ⟨rk, rnm, rng, rdg, rks⟩ ps rs)).pl = (Ty.mk fn st ⟨rk, rnm, rng, rdg, rks⟩ ps rs).pl := by rw [Prm.pl]
   rw [hpl] at fin
   generalize (Ty.mk fn st ⟨rk, rnm, rng, rdg, rks⟩ ps rs).pl = b at fin ⊢
   simp (maxDischargeDepth := 16) [zY]
   exact fin (!b) _ _ (by simp) (by simp [sub, lk])
 · obtain rfl : i = l.length := by omega
   rw [List.drop_length, prmPl] at hg
   simp (maxDischargeDepth := 16) [zY]
   refine hK4 _ _ ?_
   refine CW.cond (t := false) (by simp [zT, zF, lk]) ?_
   refine CW.exit (hR2 _ _ _ (hR _ _ _ ?_))
   simp only [outOf, if_true, andThen]
   refine hK _ _ ?_
   refine CW.seqK fun K hK => CW.region ?_
   simp (maxDischargeDepth := 16) [zY]
   refine hK _ _ ?_; clear hK K
   exact CW.ret (hR0 _ _ _ ⟨.lit (.bool true), by simp [zA, omap, zB, zF, lk], by show Fgt _ _ _ (.ret (.lit (.bool (prmPl l)))) _; rw [hg]; exact done0 rfl rfl⟩)
end
section
open Go.RowKit
variable {S : Sp} {N : Nat}
structure Tw where
 e : Exp
 x : ByteArray
 y : ByteArray
 a : Atm
 b : Atm
abbrev Tw.Pre (t : Tw) : Prop := t.e.w ≤ 4194304 ∧ (t.a.w ≤ 4194304 ∧ t.a.toT.w ≤ 4194304) ∧ (t.b.w ≤ 4194304 ∧ t.b.toT.w ≤ 4194304)
theorem W_le (names : List ByteArray) (atoms : List Atm) : (mkOf names atoms).W ≤ 2 * atmN atoms := by
 have h1 := toTs_n (atoms.take (min names.length atoms.length))
 have h2 := atmN_take atoms (min names.length atoms.length)
 show atmN atoms + trmN ((atoms.take (min names.length atoms.length)).map Atm.toT) ≤ _
 omega
end
end Go.Proofs.YtncoidmbmihliaaGreatDoor
