/-
 EV: the package tree: the maker's methods, as Subst has them (printed by gen_tree2.py).
-/
import Derived.Test.YtncoidmbmihliaaGreatDoorTr2M
namespace Go.Proofs.YtncoidmbmihliaaGreatDoor
set_option maxRecDepth 100000
set_option maxHeartbeats 8000000
set_option linter.unusedSimpArgs false
set_option linter.unusedVariables false
section
open Go.RowKit
variable {S : Sp} {N : Nat}
abbrev txtF : FS := pureF (fun l : List ByteArray => [.sl (txtR l) .no]) (fun l => .sl (txtR l) .no) List.length 0
theorem txt1_inj (a b : List ByteArray) (e : [AV.sl (txtR a) .no] = [.sl (txtR b) .no]) : a = b := by simp only [List.cons.injEq, and_true, AV.sl.injEq] at e; exact txtR_inj e
theorem CloneT_w (hc : S.code = codeP Tryz.prog) (hm : S.ms 106 = []) : PureOk Tryz.prog S N 106 (fun l : List ByteArray => [.sl (txtR l) .no]) (fun l => .sl (txtR l) .no) List.length 0 := by
 intro a σ hl hN
 refine JC.startG (fn := Tryz.f106) (codeOf hc Tryz.func106 rfl (by kernel_rfl)) rfl hm rfl (zL rfl) fun tm => ?_
 refine JD.hide fun R0 hR0 => ?_
 refine JD.seqK fun K hK => J.cw (CW.region ?_)
 simp (maxDischargeDepth := 16) [zY]
 refine hK _ _ ?_; clear hK K
 refine JD.seqK fun K hK => JD.seqK fun K2 hK2 => J.region ?_
 refine J.val (v := .sl (txtR a) .no) (σ' := σ) (acc := .pure) rfl ?_ ?_
 · simp (maxDischargeDepth := 16) [zY]
 refine J.nilCmp (es := txtR a) (tok := .no) (e := 9) (by kernel_rfl) ?_ fun b hb => J.nil (hK2 _ _ ?_)
 · simp (maxDischargeDepth := 16) [zY]
 clear hK2 K2
 simp only [putA_some, set_fm, num, pt]
 cases b with
 | true =>
  have h0 : a = [] := by
   rcases a with _ | ⟨x, l⟩
   · rfl
   · exact absurd (hb (by simp [txtR])) (by simp)
  subst h0
  refine JD.cond (t := true) (by simp (maxDischargeDepth := 16) [zY]) (J.cw ?_)
  refine CW.seqK fun K hK => CW.region ?_
  simp (maxDischargeDepth := 16) [zY]
  refine hK _ _ ?_; clear hK K
  exact CW.ret (hR0 _ _ _ ⟨.sl [] .full, by simp [zA, omap, zB, zF, lk], done0 rfl rfl⟩)
 | false =>
  refine JD.cond (t := false) (by simp (maxDischargeDepth := 16) [zY]) (J.cw (CW.skip (hK _ _ (J.cw ?_))))
  refine CW.seqK fun K hK => CW.region ?_
  rcases Nat.eq_zero_or_pos a.length with h0 | h0
  · obtain rfl := List.eq_nil_of_length_eq_zero h0
    have hap := fun ρ ds ty po af gu x y hx hy => apd0 (P := Tryz.prog) (M := []) (σ := σ) (es := []) (tok := .full) (tk := .no) (t := 35) (e := 9) (k := 0) (by_ := 16) (ρ := ρ) (ds := ds) (ty := ty) (po := po) (af := af) (gu := gu) (x := x) (y := y) (by kernel_rfl) (by kernel_rfl) (by kernel_rfl) (by kernel_rfl) rfl (by simp) (by simp) hx hy
    simp (maxDischargeDepth := 16) [zY, txtR, List.map_nil, hap]
    refine hK _ _ ?_
    exact CW.ret (hR0 _ _ _ ⟨.sl [] .full, by simp [zA, omap, zB, zF, lk], done0 rfl rfl⟩)
  · obtain ⟨tok', g', acc, hA', hap⟩ := apd (P := Tryz.prog) (M := []) (σ := σ) (g := []) (t := 35) (e := 9) (k := 0) (by_ := 16) [] (txtR a) (Apd.nil σ _ []) (by kernel_rfl) (by kernel_rfl) (by kernel_rfl) (by kernel_rfl) rfl (txtR_hd a) (by rw [txtR_len]; omega) (by simp; omega) (by simp; omega)
    simp only [List.append_nil] at hap
    simp (maxDischargeDepth := 16) [zY, hap, txtR_stp]
    refine hK _ _ ?_
    refine CW.ret (hR0 _ _ _ ⟨.sl (txtR a) tok', by simp [zA, omap, zB, zF, lk], done (by simp [AV.pln]) (by simp [AV.nrm])⟩)
theorem call_sub3 {P : Program} {args : List AV} {σ : Sto} {Q : ARes → Sto → Prop} (m : MkE) (t : Trm) (h : S.sp 27 = some sub3F) (ha : nrmR args = [.agg t.cs, .ptr m.nmid 0, .ptr m.lid 0]) (hp : m.At σ) (L : Sto) (hb : t.n ≤ 100000000 ∧ t.cnt ≤ 20000) (hN : 16 * (m.W + t.n) + 9 < N)
    (hq : accW (S.E N) 27 args (σ ++ L) (.ret (.agg (m.e.put t).cs)) (σ ++ L) = .lcalls (fun _ => true) → Q (.ret (.agg (m.e.put t).cs)) (σ ++ L)) : CallW P (S.E N) 27 args (σ ++ L) Q :=
 have hc := m.cnt t
 have hp2 : ∀ l, sub3F.pre (m.a3, t) ((σ ++ L) ++ l) := fun l => ⟨((hp.app L).app l).2.2, by show t.n ≤ 1000000000; omega, by show (m.e.put t).cnt ≤ 20000; omega⟩
 have hN2 : sub3F.sz (m.a3, t) < N := by show 16 * (trmN m.ts + t.n) + 9 < N; have hW : m.W = atmN m.atoms + trmN m.ts := rfl; omega
 call_sp (s := sub3F) (m.a3, t) h sub3F_uniq ha (by simpa using hp2 []) hN2 (hq (by have := acc_sp (σ := σ ++ L) (s := sub3F) (m.a3, t) h sub3F_uniq ha hN2 rfl (fun l => ⟨hp2 l, rfl⟩); rw [kept_self] at this; exact this))
theorem call_sub2 {P : Program} {args : List AV} {σ : Sto} {Q : ARes → Sto → Prop} (m : MkE) (t : Atm) (h : S.sp 25 = some sub2F) (ha : nrmR args = [.agg t.cs, .ptr m.nid 0, .ptr m.nmid 0, .ptr m.aid 0]) (hp : m.At σ) (L : Sto) (hb : t.n ≤ 100000000) (hN : 16 * (m.W + t.n) + 9 < N)
    (hq : accW (S.E N) 25 args (σ ++ L) (.ret (.agg (m.a2.put t).cs)) (σ ++ L) = .lcalls (fun _ => true) → Q (.ret (.agg (m.a2.put t).cs)) (σ ++ L)) : CallW P (S.E N) 25 args (σ ++ L) Q :=
 have hp2 : ∀ l, sub2F.pre (m.a2, t) ((σ ++ L) ++ l) := fun l => ⟨((hp.app L).app l).2.1, by show t.n ≤ 1000000000; omega⟩
 have hN2 : sub2F.sz (m.a2, t) < N := by show 16 * (atmN m.atoms + t.n) + 9 < N; have hW : m.W = atmN m.atoms + trmN m.ts := rfl; omega
 call_sp (s := sub2F) (m.a2, t) h sub2F_uniq ha (by simpa using hp2 []) hN2 (hq (by have := acc_sp (σ := σ ++ L) (s := sub2F) (m.a2, t) h sub2F_uniq ha hN2 rfl (fun l => ⟨hp2 l, rfl⟩); rw [kept_self] at this; exact this))
theorem kind_w (hc : S.code = codeP Tryz.prog) (hm : S.ms 61 = []) (hT : S.sp 27 = some sub3F) (h1 : S.sp 102 = some (mkF (fun m l => [.sl (prmR l) .no, .fn (.func 103) [.ptr m.mid 0] []]) (fun m l => .sl (prmR (m.putPs l)) .no) prmN prmC 13)) (h2 : S.sp 60 = some (mkF (fun m l => [.sl (tyR l) .no, .fn (.func 61) [.ptr m.mid 0] []]) (fun m l => .sl (tyR (m.putYs l)) .no) tyN tyC 12)) : MkOk S N 61 (fun m t => [.ptr m.mid 0, .agg t.cs]) (fun m t => .agg (m.putY t).cs) Ty.n Ty.c 11 := by
 intro m a σ hp hl hN
 refine JC.startF (fn := Tryz.f61) (codeOf hc Tryz.func61 rfl (by kernel_rfl)) rfl hm rfl (zL rfl) fun tm => ?_
 refine CW.hide fun R0 hR0 => ?_
 have hW : m.W = atmN m.atoms + trmN m.ts := rfl
 have hp0 := hp.1
 simp only [MkE.fA, MkE.fT] at hp0
 have l1 := (List.getElem?_eq_some_iff.1 hp0).1
 obtain ⟨fn, st, ⟨rfk, rfnm, rfng, rfdg, rfks⟩, ps, rs⟩ := a
 simp only [Ty.n, Ty.c] at hl hN
 simp only [Ty.cs]
 rcases hpt : m.e.put (Trm.mk rfk rfnm rfng rfdg rfks) with ⟨qk, qnm, qng, qdg, qks⟩
 refine CW.seqK fun K hK => CW.region ?_
 simp (maxDischargeDepth := 16) [zY]
 refine hK _ _ ?_; clear hK K
 refine CW.seqK fun K hK => CW.draw (by kernel_rfl) ?_
 simp (maxDischargeDepth := 16) [zY, st_old l1, hp0]
 refine call_sub3 m (Trm.mk rfk rfnm rfng rfdg rfks) hT (by simp only [nrmR, AV.nrm, trmR_nrm, tyR_nrm, prmR_nrm, atmR_nrm, expR_nrm, rhsR_nrm, armR_nrm, limR_nrm, txtR_nrm, Trm.cs]) hp _ (by simp only [Trm.n, Trm.cnt]; omega) (by simp only [Trm.n]; omega) fun hac => ?_
 simp (maxDischargeDepth := 16) [zY, hac, st_old l1, hp0, hpt, Trm.cs]
 refine ⟨by kernel_rfl, hK _ _ ?_⟩; clear hK K
 refine CW.seqK fun K hK => CW.draw (by kernel_rfl) ?_
 simp (maxDischargeDepth := 16) [zY, st_old l1, hp0]
 refine call_mk m ps h1 eachPrm_inj (by simp only [nrmR, AV.nrm, trmR_nrm, tyR_nrm, prmR_nrm, atmR_nrm, expR_nrm, rhsR_nrm, armR_nrm, limR_nrm, txtR_nrm]) (hp.app _) (by omega) (by omega) fun hac => ?_
 simp (maxDischargeDepth := 16) [zY, hac, st_old l1, hp0]
 refine call_mk m rs h2 eachTy_inj (by simp only [nrmR, AV.nrm, trmR_nrm, tyR_nrm, prmR_nrm, atmR_nrm, expR_nrm, rhsR_nrm, armR_nrm, limR_nrm, txtR_nrm]) (hp.app _) (by omega) (by omega) fun hac => ?_
 simp (maxDischargeDepth := 16) [zY, hac, st_old l1, hp0]
 refine ⟨by kernel_rfl, hK _ _ ?_⟩; clear hK K
 refine CW.seqK fun K hK => CW.region ?_
 simp (maxDischargeDepth := 16) [zY]
 refine hK _ _ ?_; clear hK K
 exact CW.ret (hR0 _ _ _ ⟨.agg (m.putY (.mk fn st (.mk rfk rfnm rfng rfdg rfks) ps rs)).cs, by simp [zA, omap, zC, zX, MkE.putY, MkE.putP, MkE.putE, MkE.putR, MkE.putM, hpt, Ty.cs], done (by simp [AV.pln, Ty.pln]) (by simp [AV.nrm, Ty.nrm])⟩)
theorem param_w (hc : S.code = codeP Tryz.prog) (hm : S.ms 103 = []) (h1 : S.sp 61 = some (mkF (fun m t => [.ptr m.mid 0, .agg t.cs]) (fun m t => .agg (m.putY t).cs) Ty.n Ty.c 11)) : MkOk S N 103 (fun m t => [.ptr m.mid 0, .agg t.cs]) (fun m t => .agg (m.putP t).cs) Prm.n Prm.c 12 := by
 intro m a σ hp hl hN
 refine JC.startF (fn := Tryz.f103) (codeOf hc Tryz.func103 rfl (by kernel_rfl)) rfl hm rfl (zL rfl) fun tm => ?_
 refine CW.hide fun R0 hR0 => ?_
 have hW : m.W = atmN m.atoms + trmN m.ts := rfl
 have hp0 := hp.1
 simp only [MkE.fA, MkE.fT] at hp0
 have l1 := (List.getElem?_eq_some_iff.1 hp0).1
 obtain ⟨nm, ⟨tyfn, tyst, ⟨tyrfk, tyrfnm, tyrfng, tyrfdg, tyrfks⟩, typs, tyrs⟩⟩ := a
 simp only [Prm.n, Prm.c] at hl hN
 simp only [Prm.cs]
 rcases hpt : m.putY (Ty.mk tyfn tyst (Trm.mk tyrfk tyrfnm tyrfng tyrfdg tyrfks) typs tyrs) with ⟨qfn, qst, ⟨qrfk, qrfnm, qrfng, qrfdg, qrfks⟩, qps, qrs⟩
 refine CW.seqK fun K hK => CW.region ?_
 simp (maxDischargeDepth := 16) [zY]
 refine hK _ _ ?_; clear hK K
 refine CW.seqK fun K hK => CW.region ?_
 simp (maxDischargeDepth := 16) [zY, st_old l1, hp0]
 refine call_mk m (Ty.mk tyfn tyst (Trm.mk tyrfk tyrfnm tyrfng tyrfdg tyrfks) typs tyrs) h1 mkTy_inj (by simp only [nrmR, AV.nrm, trmR_nrm, tyR_nrm, prmR_nrm, atmR_nrm, expR_nrm, rhsR_nrm, armR_nrm, limR_nrm, txtR_nrm, Ty.cs]) (hp.app _) (by simp only [Ty.n, Ty.c]; omega) (by simp only [Ty.n]; omega) fun hac => ?_
 simp (maxDischargeDepth := 16) [zY, hac, st_old l1, hp0, hpt, Ty.cs]
 refine hK _ _ ?_; clear hK K
 refine CW.seqK fun K hK => CW.region ?_
 simp (maxDischargeDepth := 16) [zY]
 refine hK _ _ ?_; clear hK K
 exact CW.ret (hR0 _ _ _ ⟨.agg (m.putP (.mk nm (.mk tyfn tyst (.mk tyrfk tyrfnm tyrfng tyrfdg tyrfks) typs tyrs))).cs, by simp [zA, omap, zC, zX, MkE.putP, hpt, Prm.cs, Ty.cs], done (by simp [AV.pln, Prm.pln]) (by simp [AV.nrm, Prm.nrm])⟩)
theorem expr_w (hc : S.code = codeP Tryz.prog) (hm : S.ms 29 = []) (hA : S.sp 25 = some sub2F) (h1 : S.sp 60 = some (mkF (fun m l => [.sl (tyR l) .no, .fn (.func 61) [.ptr m.mid 0] []]) (fun m l => .sl (tyR (m.putYs l)) .no) tyN tyC 12)) (h2 : S.sp 62 = some (mkF (fun m l => [.sl (rhsR l) .no, .fn (.func 63) [.ptr m.mid 0] []]) (fun m l => .sl (rhsR (m.putRs l)) .no) rhsN rhsC 15)) (h3 : S.sp 64 = some (mkF (fun m l => [.sl (expR l) .no, .fn (.func 29) [.ptr m.mid 0] []]) (fun m l => .sl (expR (m.putEs l)) .no) expN expC 15)) (h4 : S.sp 65 = some (mkF (fun m l => [.sl (armR l) .no, .fn (.func 66) [.ptr m.mid 0] []]) (fun m l => .sl (armR (m.putMs l)) .no) armN armC 15)) : MkOk S N 29 (fun m t => [.ptr m.mid 0, .agg t.cs]) (fun m t => .agg (m.putE t).cs) Exp.n Exp.c 14 := by
 intro m a σ hp hl hN
 refine JC.startF (fn := Tryz.f29) (codeOf hc Tryz.func29 rfl (by kernel_rfl)) rfl hm rfl (zL rfl) fun tm => ?_
 refine CW.hide fun R0 hR0 => ?_
 have hW : m.W = atmN m.atoms + trmN m.ts := rfl
 have hp0 := hp.1
 simp only [MkE.fA, MkE.fT] at hp0
 have l1 := (List.getElem?_eq_some_iff.1 hp0).1
 obtain ⟨k, nm, ty, rh, ⟨amk, amnm, amng, amdg, amtr⟩, ar, bd⟩ := a
 simp only [Exp.n, Exp.c] at hl hN
 simp only [Exp.cs]
 rcases hpt : m.a2.put (Atm.mk amk amnm amng amdg amtr) with ⟨qk, qnm, qng, qdg, qtr⟩
 refine CW.seqK fun K hK => CW.region ?_
 simp (maxDischargeDepth := 16) [zY]
 refine hK _ _ ?_; clear hK K
 refine CW.seqK fun K hK => CW.draw (by kernel_rfl) ?_
 simp (maxDischargeDepth := 16) [zY, st_old l1, hp0]
 refine call_sub2 m (Atm.mk amk amnm amng amdg amtr) hA (by simp only [nrmR, AV.nrm, trmR_nrm, tyR_nrm, prmR_nrm, atmR_nrm, expR_nrm, rhsR_nrm, armR_nrm, limR_nrm, txtR_nrm, Atm.cs]) hp _ (by simp only [Atm.n]; omega) (by simp only [Atm.n]; omega) fun hac => ?_
 simp (maxDischargeDepth := 16) [zY, hac, st_old l1, hp0, hpt, Atm.cs]
 refine ⟨by kernel_rfl, hK _ _ ?_⟩; clear hK K
 refine CW.seqK fun K hK => CW.draw (by kernel_rfl) ?_
 simp (maxDischargeDepth := 16) [zY, st_old l1, hp0]
 refine call_mk m ty h1 eachTy_inj (by simp only [nrmR, AV.nrm, trmR_nrm, tyR_nrm, prmR_nrm, atmR_nrm, expR_nrm, rhsR_nrm, armR_nrm, limR_nrm, txtR_nrm]) (hp.app _) (by omega) (by omega) fun hac => ?_
 simp (maxDischargeDepth := 16) [zY, hac, st_old l1, hp0]
 refine call_mk m rh h2 eachRhs_inj (by simp only [nrmR, AV.nrm, trmR_nrm, tyR_nrm, prmR_nrm, atmR_nrm, expR_nrm, rhsR_nrm, armR_nrm, limR_nrm, txtR_nrm]) (hp.app _) (by omega) (by omega) fun hac => ?_
 simp (maxDischargeDepth := 16) [zY, hac, st_old l1, hp0]
 refine ⟨by kernel_rfl, hK _ _ ?_⟩; clear hK K
 refine CW.seqK fun K hK => CW.draw (by kernel_rfl) ?_
 simp (maxDischargeDepth := 16) [zY, st_old l1, hp0]
 refine call_mk m bd h3 eachExp_inj (by simp only [nrmR, AV.nrm, trmR_nrm, tyR_nrm, prmR_nrm, atmR_nrm, expR_nrm, rhsR_nrm, armR_nrm, limR_nrm, txtR_nrm]) (hp.app _) (by omega) (by omega) fun hac => ?_
 simp (maxDischargeDepth := 16) [zY, hac, st_old l1, hp0]
 refine call_mk m ar h4 eachArm_inj (by simp only [nrmR, AV.nrm, trmR_nrm, tyR_nrm, prmR_nrm, atmR_nrm, expR_nrm, rhsR_nrm, armR_nrm, limR_nrm, txtR_nrm]) (hp.app _) (by omega) (by omega) fun hac => ?_
 simp (maxDischargeDepth := 16) [zY, hac, st_old l1, hp0]
 refine ⟨by kernel_rfl, hK _ _ ?_⟩; clear hK K
 refine CW.seqK fun K hK => CW.region ?_
 simp (maxDischargeDepth := 16) [zY]
 refine hK _ _ ?_; clear hK K
 exact CW.ret (hR0 _ _ _ ⟨.agg (m.putE (.mk k nm ty rh (.mk amk amnm amng amdg amtr) ar bd)).cs, by simp [zA, omap, zC, zX, MkE.putY, MkE.putP, MkE.putE, MkE.putR, MkE.putM, hpt, Exp.cs, Atm.cs], done (by simp [AV.pln, Exp.pln]) (by simp [AV.nrm, Exp.nrm])⟩)
theorem rhs_w (hc : S.code = codeP Tryz.prog) (hm : S.ms 63 = []) (h1 : S.sp 104 = some (mkF (fun m l => [.sl (atmR l) .no, m.fA]) (fun m l => .sl (atmR (m.putAs l)) .no) atmN atmC 10)) (h2 : S.sp 102 = some (mkF (fun m l => [.sl (prmR l) .no, .fn (.func 103) [.ptr m.mid 0] []]) (fun m l => .sl (prmR (m.putPs l)) .no) prmN prmC 13)) (h3 : S.sp 60 = some (mkF (fun m l => [.sl (tyR l) .no, .fn (.func 61) [.ptr m.mid 0] []]) (fun m l => .sl (tyR (m.putYs l)) .no) tyN tyC 12)) (h4 : S.sp 64 = some (mkF (fun m l => [.sl (expR l) .no, .fn (.func 29) [.ptr m.mid 0] []]) (fun m l => .sl (expR (m.putEs l)) .no) expN expC 15)) (h5 : S.sp 105 = some (mkF (fun m l => [.sl (trmR l) .no, m.fT]) (fun m l => .sl (trmR (m.e.puts l)) .no) trmN trmCs 10)) : MkOk S N 63 (fun m t => [.ptr m.mid 0, .agg t.cs]) (fun m t => .agg (m.putR t).cs) Rhs.n Rhs.c 14 := by
 intro m a σ hp hl hN
 refine JC.startF (fn := Tryz.f63) (codeOf hc Tryz.func63 rfl (by kernel_rfl)) rfl hm rfl (zL rfl) fun tm => ?_
 refine CW.hide fun R0 hR0 => ?_
 have hW : m.W = atmN m.atoms + trmN m.ts := rfl
 have hp0 := hp.1
 simp only [MkE.fA, MkE.fT] at hp0
 have l1 := (List.getElem?_eq_some_iff.1 hp0).1
 obtain ⟨k, nm, ats, ps, rs, bd, ts⟩ := a
 simp only [Rhs.n, Rhs.c] at hl hN
 simp only [Rhs.cs]
 refine CW.seqK fun K hK => CW.region ?_
 simp (maxDischargeDepth := 16) [zY]
 refine hK _ _ ?_; clear hK K
 refine CW.seqK fun K hK => CW.draw (by kernel_rfl) ?_
 simp (maxDischargeDepth := 16) [zY, st_old l1, hp0]
 refine call_mk m ats h1 eachAtm_inj (by simp only [nrmR, AV.nrm, trmR_nrm, tyR_nrm, prmR_nrm, atmR_nrm, expR_nrm, rhsR_nrm, armR_nrm, limR_nrm, txtR_nrm]) (hp.app _) (by simp only [atmC]; omega) (by omega) fun hac => ?_
 simp (maxDischargeDepth := 16) [zY, hac, st_old l1, hp0]
 refine ⟨by kernel_rfl, hK _ _ ?_⟩; clear hK K
 refine CW.seqK fun K hK => CW.draw (by kernel_rfl) ?_
 simp (maxDischargeDepth := 16) [zY, st_old l1, hp0]
 refine call_mk m ps h2 eachPrm_inj (by simp only [nrmR, AV.nrm, trmR_nrm, tyR_nrm, prmR_nrm, atmR_nrm, expR_nrm, rhsR_nrm, armR_nrm, limR_nrm, txtR_nrm]) (hp.app _) (by omega) (by omega) fun hac => ?_
 simp (maxDischargeDepth := 16) [zY, hac, st_old l1, hp0]
 refine call_mk m rs h3 eachTy_inj (by simp only [nrmR, AV.nrm, trmR_nrm, tyR_nrm, prmR_nrm, atmR_nrm, expR_nrm, rhsR_nrm, armR_nrm, limR_nrm, txtR_nrm]) (hp.app _) (by omega) (by omega) fun hac => ?_
 simp (maxDischargeDepth := 16) [zY, hac, st_old l1, hp0]
 refine ⟨by kernel_rfl, hK _ _ ?_⟩; clear hK K
 refine CW.seqK fun K hK => CW.draw (by kernel_rfl) ?_
 simp (maxDischargeDepth := 16) [zY, st_old l1, hp0]
 refine call_mk m bd h4 eachExp_inj (by simp only [nrmR, AV.nrm, trmR_nrm, tyR_nrm, prmR_nrm, atmR_nrm, expR_nrm, rhsR_nrm, armR_nrm, limR_nrm, txtR_nrm]) (hp.app _) (by omega) (by omega) fun hac => ?_
 simp (maxDischargeDepth := 16) [zY, hac, st_old l1, hp0]
 refine call_mk m ts h5 eachTrm_inj (by simp only [nrmR, AV.nrm, trmR_nrm, tyR_nrm, prmR_nrm, atmR_nrm, expR_nrm, rhsR_nrm, armR_nrm, limR_nrm, txtR_nrm]) (hp.app _) (by omega) (by omega) fun hac => ?_
 simp (maxDischargeDepth := 16) [zY, hac, st_old l1, hp0]
 refine ⟨by kernel_rfl, hK _ _ ?_⟩; clear hK K
 refine CW.seqK fun K hK => CW.region ?_
 simp (maxDischargeDepth := 16) [zY]
 refine hK _ _ ?_; clear hK K
 exact CW.ret (hR0 _ _ _ ⟨.agg (m.putR (.mk k nm ats ps rs bd ts)).cs, by simp [zA, omap, zC, zX, MkE.putY, MkE.putP, MkE.putE, MkE.putR, MkE.putM, Rhs.cs], done (by simp [AV.pln, Rhs.pln]) (by simp [AV.nrm, Rhs.nrm])⟩)
theorem arm_w (hc : S.code = codeP Tryz.prog) (hm : S.ms 66 = []) (h0 : S.sp 106 = some txtF) (h1 : S.sp 64 = some (mkF (fun m l => [.sl (expR l) .no, .fn (.func 29) [.ptr m.mid 0] []]) (fun m l => .sl (expR (m.putEs l)) .no) expN expC 15)) : MkOk S N 66 (fun m t => [.ptr m.mid 0, .agg t.cs]) (fun m t => .agg (m.putM t).cs) Arm.n Arm.c 14 := by
 intro m a σ hp hl hN
 refine JC.startF (fn := Tryz.f66) (codeOf hc Tryz.func66 rfl (by kernel_rfl)) rfl hm rfl (zL rfl) fun tm => ?_
 refine CW.hide fun R0 hR0 => ?_
 have hW : m.W = atmN m.atoms + trmN m.ts := rfl
 have hp0 := hp.1
 simp only [MkE.fA, MkE.fT] at hp0
 have l1 := (List.getElem?_eq_some_iff.1 hp0).1
 obtain ⟨cn, ns, bd⟩ := a
 simp only [Arm.n, Arm.c] at hl hN
 simp only [Arm.cs]
 refine CW.seqK fun K hK => CW.region ?_
 simp (maxDischargeDepth := 16) [zY]
 refine hK _ _ ?_; clear hK K
 refine CW.seqK fun K hK => CW.draw (by kernel_rfl) ?_
 simp (maxDischargeDepth := 16) [zY, st_old l1, hp0]
 refine call_pure ns h0 txt1_inj (by simp only [nrmR, AV.nrm, txtR_nrm]) (by omega) (by omega) fun hac => ?_
 simp (maxDischargeDepth := 16) [zY, hac, st_old l1, hp0]
 refine call_mk m bd h1 eachExp_inj (by simp only [nrmR, AV.nrm, trmR_nrm, tyR_nrm, prmR_nrm, atmR_nrm, expR_nrm, rhsR_nrm, armR_nrm, limR_nrm, txtR_nrm]) (hp.app _) (by omega) (by omega) fun hac => ?_
 simp (maxDischargeDepth := 16) [zY, hac, st_old l1, hp0]
 refine ⟨by kernel_rfl, hK _ _ ?_⟩; clear hK K
 refine CW.seqK fun K hK => CW.region ?_
 simp (maxDischargeDepth := 16) [zY]
 refine hK _ _ ?_; clear hK K
 exact CW.ret (hR0 _ _ _ ⟨.agg (m.putM (.mk cn ns bd)).cs, by simp [zA, omap, zC, zX, MkE.putY, MkE.putP, MkE.putE, MkE.putR, MkE.putM, Arm.cs], done (by simp [AV.pln, Arm.pln]) (by simp [AV.nrm, Arm.nrm])⟩)
end
section
open Go.RowKit
variable {S : Sp} {N : Nat}
abbrev atomF : FS := pureF (fun a : Atm => [.agg a.cs]) (fun a => .agg a.toT.cs) Atm.n 1
theorem atom_w (hc : S.code = codeP Tryz.prog) (hm : S.ms 24 = []) (h1 : S.sp 55 = some limF) : PureOk Tryz.prog S N 24 (fun a : Atm => [.agg a.cs]) (fun a => .agg a.toT.cs) Atm.n 1 := by
 intro a σ hl hN
 refine JC.startF (fn := Tryz.f24) (codeOf hc Tryz.func24 rfl (by kernel_rfl)) rfl hm rfl (zL rfl) fun tm => ?_
 refine CW.hide fun R0 hR0 => ?_
 obtain ⟨k, nm, ng, dg, tr⟩ := a
 have hput := @Atm.toT_eq k nm ng dg tr
 simp only [Atm.n] at hl hN
 simp only [Atm.cs]
 refine CW.seqK fun K hK => CW.region ?_
 simp (maxDischargeDepth := 16) [zY]
 refine hK _ _ ?_; clear hK K
 refine CW.seqK fun K hK => CW.block (CW.hide fun R hR => ?_)
 rcases Classical.em (k = 1) with h | h
 · subst h
   refine CW.seqK fun K hK => CW.region ?_
   simp (maxDischargeDepth := 16) [zY]
   refine hK _ _ ?_; clear hK K
   refine CW.cond (t := true) (by simp [zT, zF, lk]) ?_
   refine CW.seqK fun K hK => CW.region ?_
   simp (maxDischargeDepth := 16) [zY]
   refine hK _ _ ?_; clear hK K
   exact CW.ret (hR _ _ _ (hR0 _ _ _ ⟨.agg [.lit (.int .u8 1), .lit (.string nm), .lit (.bool false), .sl [] .full, .sl [] .full], by simp [zA, omap, zC, zB, zX], by show Fgt _ _ _ (.ret (.agg (Atm.toT _).cs)) _; rw [hput, if_pos rfl]; exact done (by simp [AV.pln, plnR, plnRR, Trm.pln, limR_pln]) (by simp [AV.nrm, nrmR, Trm.nrm, nrmRR, Trm.cs, limR_nrm, trmR, show limR [] = [] from rfl])⟩))
 rcases Classical.em (k = 2) with h2 | h2
 · subst h2
   refine CW.seqK fun K hK => CW.region ?_
   simp (maxDischargeDepth := 16) [zY]
   refine hK _ _ ?_; clear hK K
   refine CW.cond (t := false) (by simp [zT, zF, lk]) ?_
   refine CW.seqK fun K hK => CW.region ?_
   simp (maxDischargeDepth := 16) [zY]
   refine hK _ _ ?_; clear hK K
   refine CW.cond (t := true) (by simp [zT, zF, lk]) ?_
   refine CW.seqK fun K hK => CW.region ?_
   simp (maxDischargeDepth := 16) [zY]
   refine hK _ _ ?_; clear hK K
   refine CW.seqK fun K hK => CW.region ?_
   simp (maxDischargeDepth := 16) [zY]
   refine call_pure dg h1 lim1_inj (by simp only [nrmR, AV.nrm, limR_nrm]) (by omega) (by omega) fun _ => ?_
   simp (maxDischargeDepth := 16) [zY]
   refine hK _ _ ?_; clear hK K
   refine CW.seqK fun K hK => CW.region ?_
   simp (maxDischargeDepth := 16) [zY]
   refine hK _ _ ?_; clear hK K
   exact CW.ret (hR _ _ _ (hR0 _ _ _ ⟨.agg [.lit (.int .u8 2), .lit (.string ⟨#[]⟩), .lit (.bool ng), .sl (limR dg) .no, .sl [] .full], by simp [zA, omap, zC, zB, zX], by show Fgt _ _ _ (.ret (.agg (Atm.toT _).cs)) _; rw [hput, if_neg (by decide), if_pos rfl]; exact done (by simp [AV.pln, plnR, plnRR, Trm.pln, limR_pln]) (by simp [AV.nrm, nrmR, Trm.nrm, nrmRR, Trm.cs, limR_nrm, trmR, show limR [] = [] from rfl])⟩))
 rcases Classical.em (k = 3) with h3 | h3
 · subst h3
   cases tr with
   | true =>
    refine CW.seqK fun K hK => CW.region ?_
    simp (maxDischargeDepth := 16) [zY]
    refine hK _ _ ?_; clear hK K
    refine CW.cond (t := false) (by simp [zT, zF, lk]) ?_
    refine CW.seqK fun K hK => CW.region ?_
    simp (maxDischargeDepth := 16) [zY]
    refine hK _ _ ?_; clear hK K
    refine CW.cond (t := false) (by simp [zT, zF, lk]) ?_
    refine CW.seqK fun K hK => CW.region ?_
    simp (maxDischargeDepth := 16) [zY]
    refine hK _ _ ?_; clear hK K
    refine CW.cond (t := true) (by simp [zT, zF, lk]) ?_
    refine CW.seqK fun K hK => CW.region ?_
    simp (maxDischargeDepth := 16) [zY]
    refine hK _ _ ?_; clear hK K
    exact CW.ret (hR _ _ _ (hR0 _ _ _ ⟨.agg [.lit (.int .u8 3), .lit (.string ⟨#[]⟩), .lit (.bool false), .sl [] .full, .sl [] .full], by simp [zA, omap, zC, zB, zX], by show Fgt _ _ _ (.ret (.agg (Atm.toT _).cs)) _; rw [hput, if_neg (by decide), if_neg (by decide), if_pos rfl, if_pos rfl]; exact done (by simp [AV.pln, plnR, plnRR, Trm.pln, limR_pln]) (by simp [AV.nrm, nrmR, Trm.nrm, nrmRR, Trm.cs, limR_nrm, trmR, show limR [] = [] from rfl])⟩))
   | false =>
    refine CW.seqK fun K hK => CW.region ?_
    simp (maxDischargeDepth := 16) [zY]
    refine hK _ _ ?_; clear hK K
    refine CW.cond (t := false) (by simp [zT, zF, lk]) ?_
    refine CW.seqK fun K hK => CW.region ?_
    simp (maxDischargeDepth := 16) [zY]
    refine hK _ _ ?_; clear hK K
    refine CW.cond (t := false) (by simp [zT, zF, lk]) ?_
    refine CW.seqK fun K hK => CW.region ?_
    simp (maxDischargeDepth := 16) [zY]
    refine hK _ _ ?_; clear hK K
    refine CW.cond (t := false) (by simp [zT, zF, lk]) ?_
    refine CW.seqK fun K hK => CW.region ?_
    simp (maxDischargeDepth := 16) [zY]
    refine hK _ _ ?_; clear hK K
    refine CW.cond (t := true) (by simp [zT, zF, lk]) ?_
    refine CW.seqK fun K hK => CW.region ?_
    simp (maxDischargeDepth := 16) [zY]
    refine hK _ _ ?_; clear hK K
    exact CW.ret (hR _ _ _ (hR0 _ _ _ ⟨.agg [.lit (.int .u8 4), .lit (.string ⟨#[]⟩), .lit (.bool false), .sl [] .full, .sl [] .full], by simp [zA, omap, zC, zB, zX], by show Fgt _ _ _ (.ret (.agg (Atm.toT _).cs)) _; rw [hput, if_neg (by decide), if_neg (by decide), if_pos rfl, if_neg (by decide)]; exact done (by simp [AV.pln, plnR, plnRR, Trm.pln, limR_pln]) (by simp [AV.nrm, nrmR, Trm.nrm, nrmRR, Trm.cs, limR_nrm, trmR, show limR [] = [] from rfl])⟩))
 refine CW.seqK fun K hK => CW.region ?_
 simp (maxDischargeDepth := 16) [zY, h]
 refine hK _ _ ?_; clear hK K
 refine CW.cond (t := false) (by simp [zT, zF, lk, h]) ?_
 refine CW.seqK fun K hK => CW.region ?_
 simp (maxDischargeDepth := 16) [zY, h2]
 refine hK _ _ ?_; clear hK K
 refine CW.cond (t := false) (by simp [zT, zF, lk, h2]) ?_
 refine CW.seqK fun K hK => CW.region ?_
 simp (maxDischargeDepth := 16) [zY, h3]
 refine hK _ _ ?_; clear hK K
 refine CW.cond (t := false) (by simp [zT, zF, lk, h3]) ?_
 refine CW.seqK fun K hK => CW.region ?_
 simp (maxDischargeDepth := 16) [zY, h3]
 refine hK _ _ ?_; clear hK K
 refine CW.cond (t := false) (by simp [zT, zF, lk, h3]) ?_
 refine CW.skip (hR _ _ _ (hK _ _ ?_))
 refine CW.seqK fun K hK => CW.region ?_
 simp (maxDischargeDepth := 16) [zY]
 refine hK _ _ ?_; clear hK K
 exact CW.ret (hR0 _ _ _ ⟨.agg [.lit (.int .u8 0), .lit (.string ⟨#[]⟩), .lit (.bool false), .sl [] .full, .sl [] .full], by simp [zA, omap, zC, zB, zX], by show Fgt _ _ _ (.ret (.agg (Atm.toT _).cs)) _; rw [hput, if_neg h, if_neg h2, if_neg h3]; exact done (by simp [AV.pln, plnR, plnRR, Trm.pln, limR_pln]) (by simp [AV.nrm, nrmR, Trm.nrm, nrmRR, Trm.cs, limR_nrm, trmR, show limR [] = [] from rfl])⟩)
end
section
open Go.RowKit
theorem EnvT.find_id (n : List ByteArray) (ts : List Trm) (i j : Nat) (t : Trm) : EnvT.find ⟨n, ts, i⟩ t = EnvT.find ⟨n, ts, j⟩ t := by cases t; rfl
mutual
theorem EnvT.put_id (n : List ByteArray) (ts : List Trm) (i j : Nat) : ∀ t : Trm, EnvT.put ⟨n, ts, i⟩ t = EnvT.put ⟨n, ts, j⟩ t
 | .mk k nm ng dg ks => by rw [EnvT.put, EnvT.put, EnvT.find_id n ts i j, EnvT.puts_id n ts i j ks]
theorem EnvT.puts_id (n : List ByteArray) (ts : List Trm) (i j : Nat) : ∀ l : List Trm, EnvT.puts ⟨n, ts, i⟩ l = EnvT.puts ⟨n, ts, j⟩ l
 | [] => rfl
 | t :: l => by rw [EnvT.puts, EnvT.puts, EnvT.put_id n ts i j t, EnvT.puts_id n ts i j l]
end
structure MkE.Like (m m' : MkE) : Prop where
 nm : m.names = m'.names
 at_ : m.atoms = m'.atoms
variable {m m' : MkE}
theorem MkE.Like.a (h : m.Like m') (t : Atm) : m.a2.put t = m'.a2.put t := by
 obtain ⟨h1, h2⟩ := h
 cases t
 simp only [A2.put_eq, A2.k, h1, h2]
theorem MkE.Like.t (h : m.Like m') (t : Trm) : m.e.put t = m'.e.put t := by
 obtain ⟨h1, h2⟩ := h
 simp only [MkE.e, MkE.ts, h1, h2]
 exact EnvT.put_id _ _ _ _ t
theorem MkE.Like.ts (h : m.Like m') (t : List Trm) : m.e.puts t = m'.e.puts t := by
 obtain ⟨h1, h2⟩ := h
 simp only [MkE.e, MkE.ts, h1, h2]
 exact EnvT.puts_id _ _ _ _ t
theorem MkE.Like.as (h : m.Like m') (l : List Atm) : m.putAs l = m'.putAs l := List.map_congr_left fun x _ => h.a x
mutual
theorem MkE.Like.y (h : m.Like m') : ∀ t : Ty, m.putY t = m'.putY t
 | .mk fn st rf ps rs => by rw [MkE.putY, MkE.putY, h.t rf, MkE.Like.ps h ps, MkE.Like.ys h rs]
theorem MkE.Like.p (h : m.Like m') : ∀ t : Prm, m.putP t = m'.putP t
 | .mk nm ty => by rw [MkE.putP, MkE.putP, MkE.Like.y h ty]
theorem MkE.Like.ps (h : m.Like m') : ∀ t : List Prm, m.putPs t = m'.putPs t
 | [] => rfl
 | x :: l => by rw [MkE.putPs, MkE.putPs, MkE.Like.p h x, MkE.Like.ps h l]
theorem MkE.Like.ys (h : m.Like m') : ∀ t : List Ty, m.putYs t = m'.putYs t
 | [] => rfl
 | x :: l => by rw [MkE.putYs, MkE.putYs, MkE.Like.y h x, MkE.Like.ys h l]
end
mutual
theorem MkE.Like.x (h : m.Like m') : ∀ t : Exp, m.putE t = m'.putE t
 | .mk k nm ty rh am ar bd => by rw [MkE.putE, MkE.putE, h.ys ty, MkE.Like.rs h rh, h.a am, MkE.Like.ms h ar, MkE.Like.xs h bd]
theorem MkE.Like.r (h : m.Like m') : ∀ t : Rhs, m.putR t = m'.putR t
 | .mk k nm ats ps rs bd ts => by rw [MkE.putR, MkE.putR, h.as ats, h.ps ps, h.ys rs, MkE.Like.xs h bd, h.ts ts]
theorem MkE.Like.arm (h : m.Like m') : ∀ t : Arm, m.putM t = m'.putM t
 | .mk cn ns bd => by rw [MkE.putM, MkE.putM, MkE.Like.xs h bd]
theorem MkE.Like.xs (h : m.Like m') : ∀ t : List Exp, m.putEs t = m'.putEs t
 | [] => rfl
 | x :: l => by rw [MkE.putEs, MkE.putEs, MkE.Like.x h x, MkE.Like.xs h l]
theorem MkE.Like.rs (h : m.Like m') : ∀ t : List Rhs, m.putRs t = m'.putRs t
 | [] => rfl
 | x :: l => by rw [MkE.putRs, MkE.putRs, MkE.Like.r h x, MkE.Like.rs h l]
theorem MkE.Like.ms (h : m.Like m') : ∀ t : List Arm, m.putMs t = m'.putMs t
 | [] => rfl
 | x :: l => by rw [MkE.putMs, MkE.putMs, MkE.Like.arm h x, MkE.Like.ms h l]
end
end
section
open Go.RowKit
theorem chunks_rows {k : Nat} : ∀ (es : List (List AV)), (∀ r ∈ es, r.length = k) → chunks k es.length es.flatten = es
 | [], _ => rfl
 | r :: es, h => by
  have h1 := h r List.mem_cons_self
  show chunks k (es.length + 1) (r ++ es.flatten) = _
  rw [chunks, List.take_left' h1, List.drop_left' h1, chunks_rows es fun x hx => h x (List.mem_cons_of_mem _ hx)]
theorem rows_len {k : Nat} : ∀ (es : List (List AV)), (∀ r ∈ es, r.length = k) → es.flatten.length = es.length * k
 | [], _ => by simp
 | r :: es, h => by
  have h1 := h r List.mem_cons_self
  rw [List.flatten_cons, List.length_append, rows_len es fun x hx => h x (List.mem_cons_of_mem _ hx), h1, List.length_cons, Nat.add_mul]; omega
def Held (σ : Sto) (e : TypeId) (k : Nat) (es : List (List AV)) (lv : AV) (d : Option Nat) : Prop :=
 (d = none ∧ lv = .sl [] .full ∧ es = []) ∨ ∃ id, d = some id ∧ lv = .asl id 0 es.length k ∧ σ[id]? = some (.cells es.flatten e)
def kill (d : Option Nat) (σ : Sto) : Sto := match d with | none => σ | some i => σ.set i .dead
theorem kill_len (d : Option Nat) (σ : Sto) : (kill d σ).length = σ.length := by cases d <;> simp [kill]
theorem Held.app {σ : Sto} {e : TypeId} {k : Nat} {es : List (List AV)} {lv : AV} {d : Option Nat} (h : Held σ e k es lv d) (l : Sto) : Held (σ ++ l) e k es lv d := by
 rcases h with h | ⟨i, h1, h2, h3⟩
 · exact .inl h
 · exact .inr ⟨i, h1, h2, (st_old (List.getElem?_eq_some_iff.1 h3).1).trans h3⟩
theorem apdM {P : Program} {σ : Sto} {t e : TypeId} {k by_ : Nat} {es : List (List AV)} {lv : AV} {d : Option Nat} (f : List AV) (yv : AV) (hr : rowsA σ (k + 1) yv = some [f]) (h : Held σ e (k + 1) es lv d) (hes : ∀ r ∈ es, r.length = k + 1) (hf : f.length = k + 1) (ht : P.underlying t = some (.slice e)) (hk : szOf P e = some (k + 1)) (hb : bytesOf P e = some by_) (hz : ((P.info? e).bind fun x => x.zero).map (fun z => z.cells.size) = some (k + 1)) (h1 : (es.length + 1) * by_ ≤ 140737488355328) (h2 : es.length + 1 ≤ 140737488355328) :
    ∀ (ρ : Operand → Option AV) (x y : Operand), ρ x = some lv → ρ y = some yv → evAppendM P ρ σ t x y = some (.val (.asl σ.length 0 (es.length + 1) (k + 1)) (kill d σ ++ [.cells (es.flatten ++ f) e]) (.grows d σ.length)) := by
 intro ρ x y hx hy
 rcases h with ⟨rfl, rfl, rfl⟩ | ⟨id, rfl, rfl, h3⟩
 · have hr0 : rowsA σ (k + 1) (.sl [] .full) = some [] := by simp [rowsA]
   simp only [List.length_nil, Nat.zero_add, Nat.one_mul] at h1
   simp [evAppendM, ht, hx, hy, hk, hb, hz, hr, hr0, kill] <;> omega
 · have hl := rows_len es hes
   have hr0 : rowsA σ (k + 1) (.asl id 0 es.length (k + 1)) = some es := by simp [rowsA, h3, hl, chunks_rows es hes]
   simp [evAppendM, ht, hx, hy, hk, hb, hz, hr, hr0, h3, kill] <;> omega
end
end Go.Proofs.YtncoidmbmihliaaGreatDoor
