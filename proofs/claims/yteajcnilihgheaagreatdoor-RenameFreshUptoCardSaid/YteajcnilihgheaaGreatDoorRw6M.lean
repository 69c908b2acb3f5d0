/-
 EV: the package rename: what only reads: kept; each of atoms, types, parameters (printed by gen_rw6.py).
-/
import Derived.Test.YteajcnilihgheaaGreatDoorRw1M
import Derived.Test.YteajcnilihgheaaGreatDoorEvDJM
import Derived.Test.YteajcnilihgheaaGreatDoorRnM
namespace Go.Proofs.YteajcnilihgheaaGreatDoor
set_option maxRecDepth 100000
set_option maxHeartbeats 8000000
set_option linter.unusedSimpArgs false
set_option linter.unusedVariables false
section
open Go.RowKit
variable {S : Sp} {N : Nat}
abbrev ratomF : FS := ⟨RS × Atm, fun p => [.ptr p.1.rid 0, .agg p.2.cs], fun p σ => p.1.At σ ∧ p.2.n ≤ 1000000000, fun p σ => (.ret (.agg (renA p.1.l p.2).cs), σ), fun p => 16 * p.2.n + 1⟩
theorem ratomF_uniq : FS.uniq ratomF := fun a b σ e ha hb => by
 obtain ⟨m, t⟩ := a; obtain ⟨m', t'⟩ := b
 simp only [List.cons.injEq, AV.ptr.injEq, AV.agg.injEq, and_true] at e
 obtain ⟨e1, e2⟩ := e
 cases Atm.inj e2
 dsimp only
 rw [renA_congr (RS.uniq e1 ha.1 hb.1)]
theorem call_ratom {P : Program} {args : List AV} {σ : Sto} {Q : ARes → Sto → Prop} (m : RS) (t : Atm) (h : S.sp 61 = some ratomF) (ha : nrmR args = [.ptr m.rid 0, .agg t.cs]) (hb : m.At σ) (hn : t.n ≤ 1000000000) (hN : 16 * t.n + 1 < N)
    (hq : accW (S.E N) 61 args σ (.ret (.agg (renA m.l t).cs)) σ = .lcalls (fun _ => true) → Q (.ret (.agg (renA m.l t).cs)) σ) : CallW P (S.E N) 61 args σ Q :=
 call_sp (s := ratomF) (m, t) h ratomF_uniq ha ⟨hb, hn⟩ hN (hq (by have := acc_sp (σ := σ) (s := ratomF) (m, t) h ratomF_uniq ha hN rfl (fun l => ⟨⟨hb.app l, hn⟩, rfl⟩); rw [kept_self] at this; exact this))
def renAs (l : Bnd) (a : List Atm) : List Atm := a.map (renA l)
theorem renAs_len {l : Bnd} {a : List Atm} : (renAs l a).length = a.length := List.length_map _
theorem renAs_app {l : Bnd} {a b : List Atm} : renAs l (a ++ b) = renAs l a ++ renAs l b := List.map_append
abbrev reachAF : FS := ⟨RS × List Atm, fun p => [.sl (atmR p.2) .no, .fn (.func 61) [.ptr p.1.rid 0] []], fun p σ => p.1.At σ ∧ atmN p.2 ≤ 1000000000, fun p σ => (.ret (.sl (atmR (renAs p.1.l p.2)) .no), σ), fun p => 16 * atmN p.2 + 2⟩
theorem reachAF_uniq : FS.uniq reachAF := fun a b σ e ha hb => by
 obtain ⟨m, t⟩ := a; obtain ⟨m', t'⟩ := b
 simp only [List.cons.injEq, AV.sl.injEq, AV.fn.injEq, AV.ptr.injEq, and_true, true_and] at e
 obtain ⟨e1, e2⟩ := e
 cases atmR_inj e1
 dsimp only
 rw [show renAs m.l t = renAs m'.l t from List.map_congr_left fun x _ => renA_congr (RS.uniq e2 ha.1 hb.1) x]
theorem call_reachA {P : Program} {args : List AV} {σ : Sto} {Q : ARes → Sto → Prop} (m : RS) (l : List Atm) (h : S.sp 96 = some reachAF) (ha : nrmR args = [.sl (atmR l) .no, .fn (.func 61) [.ptr m.rid 0] []]) (hb : m.At σ) (hn : atmN l ≤ 1000000000) (hN : 16 * atmN l + 2 < N)
    (hq : accW (S.E N) 96 args σ (.ret (.sl (atmR (renAs m.l l)) .no)) σ = .lcalls (fun _ => true) → Q (.ret (.sl (atmR (renAs m.l l)) .no)) σ) : CallW P (S.E N) 96 args σ Q :=
 call_sp (s := reachAF) (m, l) h reachAF_uniq ha ⟨hb, hn⟩ hN (hq (by have := acc_sp (σ := σ) (s := reachAF) (m, l) h reachAF_uniq ha hN rfl (fun k => ⟨⟨hb.app k, hn⟩, rfl⟩); rw [kept_self] at this; exact this))
abbrev rkeptF : FS := pureF (fun t : Ty => [.agg t.cs]) (fun t => .agg t.cs) Ty.n 4
abbrev rkeptPF : FS := pureF (fun t : Prm => [.agg t.cs]) (fun t => .agg t.cs) Prm.n 5
abbrev reachYF : FS := pureF (fun t : List Ty => [.sl (tyR t) .no, .fn (.func 89) [] []]) (fun t => .sl (tyR t) .no) tyN 6
abbrev reachPF : FS := pureF (fun t : List Prm => [.sl (prmR t) .no, .fn (.func 122) [] []]) (fun t => .sl (prmR t) .no) prmN 7
theorem ty1_inj (a b : Ty) (e : [AV.agg a.cs] = [.agg b.cs]) : a = b := by simp only [List.cons.injEq, and_true, AV.agg.injEq] at e; exact Ty.inj e
theorem pr1_inj (a b : Prm) (e : [AV.agg a.cs] = [.agg b.cs]) : a = b := by simp only [List.cons.injEq, and_true, AV.agg.injEq] at e; exact Prm.inj e
theorem tys_inj {f : AV} (a b : List Ty) (e : [AV.sl (tyR a) .no, f] = [.sl (tyR b) .no, f]) : a = b := by simp only [List.cons.injEq, and_true, AV.sl.injEq] at e; exact tyR_inj e
theorem prs_inj {f : AV} (a b : List Prm) (e : [AV.sl (prmR a) .no, f] = [.sl (prmR b) .no, f]) : a = b := by simp only [List.cons.injEq, and_true, AV.sl.injEq] at e; exact prmR_inj e
theorem reachA_w (hc : S.code = codeP Tryz.prog) (hm : S.ms 96 = []) (h1 : S.sp 61 = some ratomF) (m : RS) (a : List Atm) (σ : Sto) (he : m.At σ) (hl : atmN a ≤ 1000000000) (hN : 16 * atmN a + 2 ≤ N) :
    JC Tryz.prog (S.E N) 96 [.sl (atmR a) .no, .fn (.func 61) [.ptr m.rid 0] []] σ fun r σ' => Fgt σ r σ' (.ret (.sl (atmR (renAs m.l a)) .no)) σ := by
 refine JC.startF (fn := Tryz.f96) (codeOf hc Tryz.func96 rfl (by kernel_rfl)) rfl hm rfl (zL rfl) fun tm => ?_
 refine CW.hide fun R0 hR0 => ?_
 have hlen : a.length ≤ atmN a := atmN_len a
 refine CW.seqK fun K hK => CW.region ?_
 simp (maxDischargeDepth := 16) [zY]
 refine hK _ _ ?_; clear hK K
 refine CW.seqK fun K hK => CW.region ?_
 simp (maxDischargeDepth := 16) [zY]
 refine hK _ _ ?_; clear hK K
 refine CW.seqK fun K hK => ?_
 refine CW.seqK fun K hK => CW.region ?_
 simp (maxDischargeDepth := 16) [zY]
 refine hK _ _ ?_; clear hK K
 refine CW.block (CW.hide fun R hR => ?_)
 refine CW.loopF (fun p : Nat × Tok × List AObj => [(1, .fn (.func 61) [.ptr m.rid 0] []), (5, .sl (atmR (renAs m.l (a.take p.1))) p.2.1), (8, .sl (atmR a) .no), (9, intV a.length), (10, intV p.1)]) (fun p => σ ++ p.2.2) (fun p => p.1 ≤ a.length ∧ Apd σ 41 (p.1 * 5) p.2.1 p.2.2) (fun p => a.length - p.1) (0, .full, []) (by simp [sub, lk, renAs, atmR]) (by simp) ⟨by simp, by simpa using Apd.nil σ _ []⟩ ?_
 rintro ⟨i, tok, g⟩ tm ⟨hi, hA⟩
 dsimp only at hi hA ⊢
 refine CW.hide fun R2 hR2 => CW.seqK fun K4 hK4 => CW.region ?_
 rcases Nat.lt_or_ge i a.length with hlt | hge
 · have ha := atmR_get hlt
   have hg := atmN_get hlt
   have hti : (renAs m.l (a.take i)).length = i := by simp only [renAs_len]; exact List.length_take_of_le hi
   obtain ⟨tok', g', acc, hA', hap⟩ := apd (P := Tryz.prog) (M := []) (t := 43) (e := 41) (k := 4) (by_ := 64) (atmR (renAs m.l (a.take i))) [((renA m.l) a[i]).cs] (by rw [atmR_len, hti]; exact hA.push [.cells a[i].cs 41]) (by kernel_rfl) (by kernel_rfl) (by kernel_rfl) (by kernel_rfl) (atmR_hd _) (by simp [Atm.len]) (by simp) (by simp only [atmR_len, hti, List.length_singleton]; omega) (by simp only [atmR_len, hti, List.length_singleton]; omega)
   simp (maxDischargeDepth := 16) [zY, hlt]
   refine hK4 _ _ ?_
   refine CW.seqK fun K3 hK3 => ?_
   refine CW.cond (t := true) (by simp [zT, zF, lk]) ?_
   refine CW.skip (hK3 _ _ ?_)
   refine CW.seqK fun K5 hK5 => CW.block ?_
   refine CW.seqK fun K hK => CW.region ?_
   simp (maxDischargeDepth := 16) [zY, ha, Atm.len, Atm.tk, Atm.put, set_last]
   refine hK _ _ ?_; clear hK K
   refine CW.region ?_
   simp (maxDischargeDepth := 16) [zY, Atm.len, Atm.tk]
   refine call_ratom m a[i] h1 (by simp only [nrmR, AV.nrm, Atm.nrm]) (he.app _) (by omega) (by omega) fun _ => ?_
   simp (maxDischargeDepth := 16) [zY, Atm.len, Atm.tk, Atm.put, hap]
   refine hK5 _ _ ?_
   refine CW.region ?_
   simp (maxDischargeDepth := 16) [zY, wrap_succ (show i ≤ 1000000000000 by omega)]
   refine hR2 _ _ _ ⟨(i + 1, tok', g'), _, _, rfl, ?_, rfl, ⟨hlt, ?_⟩, show a.length - (i + 1) < a.length - i by omega⟩
   · have e : atmR (renAs m.l (a.take (i + 1))) = atmR (renAs m.l (a.take i)) ++ [((renA m.l) a[i]).cs] := by rw [List.take_succ_eq_append_getElem hlt]; rw [renAs_app, atmR_app]; rfl
     simp [sub, lk, e, stripRows, Atm.stp]
   · simpa only [atmR_len, hti, List.length_singleton] using hA'
 · simp (maxDischargeDepth := 16) [zY, Nat.not_lt.2 hge]
   refine hK4 _ _ ?_
   refine CW.seqK fun K3 hK3 => ?_
   refine CW.cond (t := false) (by simp [zT, zF, lk]) ?_
   refine CW.exit (hR2 _ _ _ (hR _ _ _ ?_))
   simp only [outOf, if_true, andThen]
   refine hK _ _ ?_
   rw [List.take_of_length_le hge]
   refine CW.seqK fun K hK => CW.region ?_
   simp (maxDischargeDepth := 16) [zY]
   refine hK _ _ ?_; clear hK K
   refine CW.ret (hR0 _ _ _ ⟨.sl (atmR (renAs m.l a)) tok, by simp [zA, omap, zB, zF, lk], done (by simp [AV.pln, atmR_pln]) (by simp [AV.nrm, atmR_nrm])⟩)
theorem reachY_w (hc : S.code = codeP Tryz.prog) (hm : S.ms 56 = []) (h1 : S.sp 89 = some rkeptF) (a : List Ty) (σ : Sto) (hl : tyN a ≤ 1000000000) (hN : 16 * tyN a + 6 ≤ N) :
    JC Tryz.prog (S.E N) 56 [.sl (tyR a) .no, .fn (.func 89) [] []] σ fun r σ' => Fgt σ r σ' (.ret (.sl (tyR a) .no)) σ := by
 refine JC.startF (fn := Tryz.f56) (codeOf hc Tryz.func56 rfl (by kernel_rfl)) rfl hm rfl (zL rfl) fun tm => ?_
 refine CW.hide fun R0 hR0 => ?_
 have hlen : a.length ≤ tyN a := tyN_len a
 refine CW.seqK fun K hK => CW.region ?_
 simp (maxDischargeDepth := 16) [zY]
 refine hK _ _ ?_; clear hK K
 refine CW.seqK fun K hK => CW.region ?_
 simp (maxDischargeDepth := 16) [zY]
 refine hK _ _ ?_; clear hK K
 refine CW.seqK fun K hK => ?_
 refine CW.seqK fun K hK => CW.region ?_
 simp (maxDischargeDepth := 16) [zY]
 refine hK _ _ ?_; clear hK K
 refine CW.block (CW.hide fun R hR => ?_)
 refine CW.loopF (fun p : Nat × Tok × List AObj => [(1, .fn (.func 89) [] []), (5, .sl (tyR (a.take p.1)) p.2.1), (8, .sl (tyR a) .no), (9, intV a.length), (10, intV p.1)]) (fun p => σ ++ p.2.2) (fun p => p.1 ≤ a.length ∧ Apd σ 34 (p.1 * 9) p.2.1 p.2.2) (fun p => a.length - p.1) (0, .full, []) (by simp [sub, lk, tyR]) (by simp) ⟨by simp, by simpa using Apd.nil σ _ []⟩ ?_
 rintro ⟨i, tok, g⟩ tm ⟨hi, hA⟩
 dsimp only at hi hA ⊢
 refine CW.hide fun R2 hR2 => CW.seqK fun K4 hK4 => CW.region ?_
 rcases Nat.lt_or_ge i a.length with hlt | hge
 · have ha := tyR_get hlt
   have hg := tyN_get hlt
   have hti : (a.take i).length = i := List.length_take_of_le hi
   obtain ⟨tok', g', acc, hA', hap⟩ := apd (P := Tryz.prog) (M := []) (t := 32) (e := 34) (k := 8) (by_ := 152) (tyR (a.take i)) [a[i].cs] (by rw [tyR_len, hti]; exact hA.push [.cells a[i].cs 34]) (by kernel_rfl) (by kernel_rfl) (by kernel_rfl) (by kernel_rfl) (tyR_hd _) (by simp [Ty.len]) (by simp) (by simp only [tyR_len, hti, List.length_singleton]; omega) (by simp only [tyR_len, hti, List.length_singleton]; omega)
   simp (maxDischargeDepth := 16) [zY, hlt]
   refine hK4 _ _ ?_
   refine CW.seqK fun K3 hK3 => ?_
   refine CW.cond (t := true) (by simp [zT, zF, lk]) ?_
   refine CW.skip (hK3 _ _ ?_)
   refine CW.seqK fun K5 hK5 => CW.block ?_
   refine CW.seqK fun K hK => CW.region ?_
   simp (maxDischargeDepth := 16) [zY, ha, Ty.len, Ty.tk, Ty.put, set_last]
   refine hK _ _ ?_; clear hK K
   refine CW.region ?_
   simp (maxDischargeDepth := 16) [zY, Ty.len, Ty.tk]
   refine call_pure a[i] h1 ty1_inj (by simp only [nrmR, AV.nrm, Ty.nrm]) (by omega) (by omega) fun _ => ?_
   simp (maxDischargeDepth := 16) [zY, Ty.len, Ty.tk, Ty.put, hap]
   refine hK5 _ _ ?_
   refine CW.region ?_
   simp (maxDischargeDepth := 16) [zY, wrap_succ (show i ≤ 1000000000000 by omega)]
   refine hR2 _ _ _ ⟨(i + 1, tok', g'), _, _, rfl, ?_, rfl, ⟨hlt, ?_⟩, show a.length - (i + 1) < a.length - i by omega⟩
   · have e : tyR (a.take (i + 1)) = tyR (a.take i) ++ [a[i].cs] := by rw [List.take_succ_eq_append_getElem hlt]; rw [tyR_app]; rfl
     simp [sub, lk, e, stripRows, Ty.stp]
   · simpa only [tyR_len, hti, List.length_singleton] using hA'
 · simp (maxDischargeDepth := 16) [zY, Nat.not_lt.2 hge]
   refine hK4 _ _ ?_
   refine CW.seqK fun K3 hK3 => ?_
   refine CW.cond (t := false) (by simp [zT, zF, lk]) ?_
   refine CW.exit (hR2 _ _ _ (hR _ _ _ ?_))
   simp only [outOf, if_true, andThen]
   refine hK _ _ ?_
   rw [List.take_of_length_le hge]
   refine CW.seqK fun K hK => CW.region ?_
   simp (maxDischargeDepth := 16) [zY]
   refine hK _ _ ?_; clear hK K
   refine CW.ret (hR0 _ _ _ ⟨.sl (tyR a) tok, by simp [zA, omap, zB, zF, lk], done (by simp [AV.pln, tyR_pln]) (by simp [AV.nrm, tyR_nrm])⟩)
theorem reachP_w (hc : S.code = codeP Tryz.prog) (hm : S.ms 121 = []) (h1 : S.sp 122 = some rkeptPF) (a : List Prm) (σ : Sto) (hl : prmN a ≤ 1000000000) (hN : 16 * prmN a + 7 ≤ N) :
    JC Tryz.prog (S.E N) 121 [.sl (prmR a) .no, .fn (.func 122) [] []] σ fun r σ' => Fgt σ r σ' (.ret (.sl (prmR a) .no)) σ := by
 refine JC.startF (fn := Tryz.f121) (codeOf hc Tryz.func121 rfl (by kernel_rfl)) rfl hm rfl (zL rfl) fun tm => ?_
 refine CW.hide fun R0 hR0 => ?_
 have hlen : a.length ≤ prmN a := prmN_len a
 refine CW.seqK fun K hK => CW.region ?_
 simp (maxDischargeDepth := 16) [zY]
 refine hK _ _ ?_; clear hK K
 refine CW.seqK fun K hK => CW.region ?_
 simp (maxDischargeDepth := 16) [zY]
 refine hK _ _ ?_; clear hK K
 refine CW.seqK fun K hK => ?_
 refine CW.seqK fun K hK => CW.region ?_
 simp (maxDischargeDepth := 16) [zY]
 refine hK _ _ ?_; clear hK K
 refine CW.block (CW.hide fun R hR => ?_)
 refine CW.loopF (fun p : Nat × Tok × List AObj => [(1, .fn (.func 122) [] []), (5, .sl (prmR (a.take p.1)) p.2.1), (8, .sl (prmR a) .no), (9, intV a.length), (10, intV p.1)]) (fun p => σ ++ p.2.2) (fun p => p.1 ≤ a.length ∧ Apd σ 37 (p.1 * 10) p.2.1 p.2.2) (fun p => a.length - p.1) (0, .full, []) (by simp [sub, lk, prmR]) (by simp) ⟨by simp, by simpa using Apd.nil σ _ []⟩ ?_
 rintro ⟨i, tok, g⟩ tm ⟨hi, hA⟩
 dsimp only at hi hA ⊢
 refine CW.hide fun R2 hR2 => CW.seqK fun K4 hK4 => CW.region ?_
 rcases Nat.lt_or_ge i a.length with hlt | hge
 · have ha := prmR_get hlt
   have hg := prmN_get hlt
   have hti : (a.take i).length = i := List.length_take_of_le hi
   obtain ⟨tok', g', acc, hA', hap⟩ := apd (P := Tryz.prog) (M := []) (t := 31) (e := 37) (k := 9) (by_ := 168) (prmR (a.take i)) [a[i].cs] (by rw [prmR_len, hti]; exact hA.push [.cells a[i].cs 37]) (by kernel_rfl) (by kernel_rfl) (by kernel_rfl) (by kernel_rfl) (prmR_hd _) (by simp [Prm.len]) (by simp) (by simp only [prmR_len, hti, List.length_singleton]; omega) (by simp only [prmR_len, hti, List.length_singleton]; omega)
   simp (maxDischargeDepth := 16) [zY, hlt]
   refine hK4 _ _ ?_
   refine CW.seqK fun K3 hK3 => ?_
   refine CW.cond (t := true) (by simp [zT, zF, lk]) ?_
   refine CW.skip (hK3 _ _ ?_)
   refine CW.seqK fun K5 hK5 => CW.block ?_
   refine CW.seqK fun K hK => CW.region ?_
   simp (maxDischargeDepth := 16) [zY, ha, Prm.len, Prm.tk, Prm.put, set_last]
   refine hK _ _ ?_; clear hK K
   refine CW.region ?_
   simp (maxDischargeDepth := 16) [zY, Prm.len, Prm.tk]
   refine call_pure a[i] h1 pr1_inj (by simp only [nrmR, AV.nrm, Prm.nrm]) (by omega) (by omega) fun _ => ?_
   simp (maxDischargeDepth := 16) [zY, Prm.len, Prm.tk, Prm.put, hap]
   refine hK5 _ _ ?_
   refine CW.region ?_
   simp (maxDischargeDepth := 16) [zY, wrap_succ (show i ≤ 1000000000000 by omega)]
   refine hR2 _ _ _ ⟨(i + 1, tok', g'), _, _, rfl, ?_, rfl, ⟨hlt, ?_⟩, show a.length - (i + 1) < a.length - i by omega⟩
   · have e : prmR (a.take (i + 1)) = prmR (a.take i) ++ [a[i].cs] := by rw [List.take_succ_eq_append_getElem hlt]; rw [prmR_app]; rfl
     simp [sub, lk, e, stripRows, Prm.stp]
   · simpa only [prmR_len, hti, List.length_singleton] using hA'
 · simp (maxDischargeDepth := 16) [zY, Nat.not_lt.2 hge]
   refine hK4 _ _ ?_
   refine CW.seqK fun K3 hK3 => ?_
   refine CW.cond (t := false) (by simp [zT, zF, lk]) ?_
   refine CW.exit (hR2 _ _ _ (hR _ _ _ ?_))
   simp only [outOf, if_true, andThen]
   refine hK _ _ ?_
   rw [List.take_of_length_le hge]
   refine CW.seqK fun K hK => CW.region ?_
   simp (maxDischargeDepth := 16) [zY]
   refine hK _ _ ?_; clear hK K
   refine CW.ret (hR0 _ _ _ ⟨.sl (prmR a) tok, by simp [zA, omap, zB, zF, lk], done (by simp [AV.pln, prmR_pln]) (by simp [AV.nrm, prmR_nrm])⟩)
theorem rkeptP_w (hc : S.code = codeP Tryz.prog) (hm : S.ms 122 = []) (h1 : S.sp 89 = some rkeptF) : PureOk Tryz.prog S N 122 (fun t : Prm => [.agg t.cs]) (fun t => .agg t.cs) Prm.n 5 := by
 intro t σ hl hN
 refine JC.startF (fn := Tryz.f122) (codeOf hc Tryz.func122 rfl (by kernel_rfl)) rfl hm rfl (zL rfl) fun tm => ?_
 refine CW.hide fun R0 hR0 => ?_
 obtain ⟨nm, ⟨fn, st, ⟨rfk, rfnm, rfng, rfdg, rfks⟩, ps, rs⟩⟩ := t
 simp only [Prm.n] at hl hN
 simp only [Prm.cs]
 refine CW.seqK fun K hK => CW.region ?_
 simp (maxDischargeDepth := 16) [zY]
 refine hK _ _ ?_; clear hK K
 refine CW.seqK fun K hK => CW.draw (by kernel_rfl) ?_
 simp (maxDischargeDepth := 16) [zY]
 refine call_pure (Ty.mk fn st (.mk rfk rfnm rfng rfdg rfks) ps rs) h1 ty1_inj (by simp only [nrmR, AV.nrm, limR_nrm, trmR_nrm, prmR_nrm, tyR_nrm, Ty.cs]) (by simp only [Ty.n]; omega) (by simp only [Ty.n]; omega) fun hac => ?_
 simp only [Ty.cs] at hac ⊢
 simp (maxDischargeDepth := 16) [zY, hac]
 refine ⟨drawOk_sim [σ.length, (σ.length + 1)] [.pure, .reads 0, .pure, .reads 0, .lcalls (fun _ => true), .pure, .writes 1] (.cons (by simp) (.cons (by simp) .nil)) (.cons .pure (.cons (.reads 0 _ rfl) (.cons .pure (.cons (.reads 0 _ rfl) (.cons (.lcalls _ _ fun i a ha hi => rfl) (.cons .pure (.cons (.writes 1 _ rfl) .nil))))))) (by kernel_rfl), hK _ _ ?_⟩; clear hK K
 exact CW.ret (hR0 _ _ _ ⟨.agg [.lit (.string nm), .lit (.bool fn), .lit (.string st), .lit (.int .u8 rfk), .lit (.string rfnm), .lit (.bool rfng), .sl (limR rfdg) .no, .sl (trmR rfks) .no, .sl (prmR ps) .no, .sl (tyR rs) .no], by simp [zA, omap, zC, zX], done (by simp [AV.pln, plnR, trmR_pln, prmR_pln, tyR_pln]) (by simp [AV.nrm, nrmR, trmR_nrm, prmR_nrm, tyR_nrm, Prm.cs])⟩)
theorem rkept_w (hc : S.code = codeP Tryz.prog) (hm : S.ms 89 = []) (h1 : S.sp 120 = some raloneF) (h2 : S.sp 56 = some reachYF) (h3 : S.sp 121 = some reachPF) : PureOk Tryz.prog S N 89 (fun t : Ty => [.agg t.cs]) (fun t => .agg t.cs) Ty.n 4 := by
 intro t σ hl hN
 refine JC.startF (fn := Tryz.f89) (codeOf hc Tryz.func89 rfl (by kernel_rfl)) rfl hm rfl (zL rfl) fun tm => ?_
 refine CW.hide fun R0 hR0 => ?_
 obtain ⟨fn, st, ⟨rfk, rfnm, rfng, rfdg, rfks⟩, ps, rs⟩ := t
 simp only [Ty.n] at hl hN
 simp only [Ty.cs]
 refine CW.seqK fun K hK => CW.region ?_
 simp (maxDischargeDepth := 16) [zY]
 refine hK _ _ ?_; clear hK K
 refine CW.seqK fun K hK => CW.draw (by kernel_rfl) ?_
 simp (maxDischargeDepth := 16) [zY]
 refine call_pure (Trm.mk rfk rfnm rfng rfdg rfks) h1 rt1_inj (by simp only [nrmR, AV.nrm, limR_nrm, trmR_nrm, Trm.cs]) (by simp only [Trm.n]; omega) (by simp only [Trm.n]; omega) fun hac => ?_
 simp only [Trm.cs] at hac ⊢
 simp (maxDischargeDepth := 16) [zY, hac]
 refine call_pure rs h2 tys_inj (by simp only [nrmR, AV.nrm, tyR_nrm]) (by omega) (by omega) fun hac2 => ?_
 simp (maxDischargeDepth := 16) [zY, hac, hac2]
 refine ⟨drawOk_sim [σ.length] [.pure, .reads 0, .lcalls (fun _ => true), .pure, .reads 0, .lcalls (fun _ => true), .pure, .writes 0, .pure, .writes 0] (.cons (by simp) .nil) (.cons .pure (.cons (.reads 0 _ rfl) (.cons (.lcalls _ _ fun i a ha hi => rfl) (.cons .pure (.cons (.reads 0 _ rfl) (.cons (.lcalls _ _ fun i a ha hi => rfl) (.cons .pure (.cons (.writes 0 _ rfl) (.cons .pure (.cons (.writes 0 _ rfl) .nil)))))))))) (by kernel_rfl), hK _ _ ?_⟩; clear hK K
 refine CW.seqK fun K hK => CW.region ?_
 simp (maxDischargeDepth := 16) [zY]
 refine call_pure ps h3 prs_inj (by simp only [nrmR, AV.nrm, prmR_nrm]) (by omega) (by omega) fun _ => ?_
 simp (maxDischargeDepth := 16) [zY]
 refine hK _ _ ?_; clear hK K
 refine CW.seqK fun K hK => CW.region ?_
 simp (maxDischargeDepth := 16) [zY]
 refine hK _ _ ?_; clear hK K
 exact CW.ret (hR0 _ _ _ ⟨.agg [.lit (.bool fn), .lit (.string st), .lit (.int .u8 rfk), .lit (.string rfnm), .lit (.bool rfng), .sl (limR rfdg) .no, .sl (trmR rfks) .no, .sl (prmR ps) .no, .sl (tyR rs) .no], by simp [zA, omap, zC, zX], done (by simp [AV.pln, plnR, trmR_pln, prmR_pln, tyR_pln]) (by simp [AV.nrm, nrmR, trmR_nrm, prmR_nrm, tyR_nrm, Ty.cs])⟩)
end
section
open Go.RowKit
variable {S : Sp} {N : Nat}
theorem fresh_c (H : FrH S) {q : RQ} {u : List ByteArray} {st : ByteArray → List ByteArray} {σ : Sto} (h : St q u st σ) (s : ByteArray) (hl : u.length ≤ 1000000000) (hs : s.size ≤ 1000000000) (hN : 0 < N) :
    CallW Tryz.prog (S.E N) 58 [.ptr q.rid 0, .lit (.string s)] σ fun r σ' => r = .ret (.lit (.string (freshB u s))) ∧ St q (u ++ [freshB u s]) st σ' ∧ Fr q nV σ σ' := by
 obtain ⟨tok, hA⟩ := h.a
 refine (fresh_ev (N := N) H ⟨q.rid, q.iid, q.nid, q.bid, tok, u⟩ s σ hA hl hs hN).mono ?_
 rintro r σ' ⟨rfl, tok', h1, h2, h3⟩
 obtain ⟨g1, g2⟩ := h.names (m := ⟨q.rid, q.iid, q.nid, q.bid, tok, u⟩) rfl hA tok' h1 h2 h3 (by simp)
 exact ⟨rfl, g1, g2⟩
def foldR {T : Type} (ren : List ByteArray → T → T × List ByteArray) (u : List ByteArray) : List T → List T × List ByteArray
 | [] => ([], u)
 | x :: l => ((ren u x).1 :: (foldR ren (ren u x).2 l).1, (foldR ren (ren u x).2 l).2)
theorem foldR_app {T : Type} (ren : List ByteArray → T → T × List ByteArray) : ∀ (a b : List T) (u : List ByteArray), foldR ren u (a ++ b) = ((foldR ren u a).1 ++ (foldR ren (foldR ren u a).2 b).1, (foldR ren (foldR ren u a).2 b).2)
 | [], b, u => rfl
 | x :: a, b, u => by rw [List.cons_append, foldR, foldR_app ren a b]; rfl
theorem foldR_take {T : Type} (ren : List ByteArray → T → T × List ByteArray) (u : List ByteArray) {a : List T} {i : Nat} (h : i < a.length) : foldR ren u (a.take (i + 1)) = ((foldR ren u (a.take i)).1 ++ [(ren (foldR ren u (a.take i)).2 a[i]).1], (ren (foldR ren u (a.take i)).2 a[i]).2) := by
 rw [List.take_succ_eq_append_getElem h, foldR_app]; rfl
theorem foldR_len {T : Type} (ren : List ByteArray → T → T × List ByteArray) : ∀ (a : List T) (u : List ByteArray), (foldR ren u a).1.length = a.length
 | [], u => rfl
 | x :: a, u => by rw [foldR, List.length_cons, foldR_len ren a, List.length_cons]
theorem foldR_u {T : Type} {ren : List ByteArray → T → T × List ByteArray} {b : T → List ByteArray} (hb : ∀ u x, (ren u x).2.length = u.length + (b x).length) : ∀ (a : List T) (u : List ByteArray), (foldR ren u a).2.length = u.length + (a.flatMap b).length
 | [], u => rfl
 | x :: a, u => by rw [foldR, foldR_u hb a, hb, List.flatMap_cons, List.length_append]; omega
theorem foldR_le {T : Type} {ren : List ByteArray → T → T × List ByteArray} {b : T → List ByteArray} (hb : ∀ u x, (ren u x).2.length = u.length + (b x).length) {a : List T} (u : List ByteArray) {i : Nat} (h : i < a.length) : (foldR ren u (a.take i)).2.length + (b a[i]).length ≤ u.length + (a.flatMap b).length ∧ ∀ s ∈ b a[i], s ∈ a.flatMap b := by
 have e : a = a.take i ++ a[i] :: a.drop (i + 1) := by rw [← List.drop_eq_getElem_cons h, List.take_append_drop]
 refine ⟨?_, fun s hs => List.mem_flatMap.2 ⟨_, List.getElem_mem h, hs⟩⟩
 rw [foldR_u hb]
 have : (a.flatMap b).length = ((a.take i).flatMap b).length + (b a[i]).length + ((a.drop (i + 1)).flatMap b).length := by
  conv => lhs; rw [e]
  rw [List.flatMap_append, List.length_append, List.flatMap_cons, List.length_append]
  omega
 omega
def OneJ (S : Sp) (N : Nat) (f : FuncId) {T : Type} (cs : T → List AV) (ren : Bnd → List ByteArray → T → T × List ByteArray) (b : T → List ByteArray) (x : T) : Prop :=
 ∀ (q : RQ) (u : List ByteArray) (st : ByteArray → List ByteArray) (l : Bnd) (σ : Sto), St q u st σ → Top l st → u.length + (b x).length ≤ 1000000000 → (∀ s ∈ b x, s.size ≤ 1000000000) →
  JC Tryz.prog (S.E N) f [.ptr q.rid 0, .agg (cs x)] σ fun r σ' => r = .ret (.agg (cs (ren l u x).1)) ∧ St q (ren l u x).2 st σ' ∧ Fr q nV σ σ'
theorem renYs_f (l : Bnd) : ∀ (a : List Ty) (u : List ByteArray), renYs NFp l u a = foldR (renY NFp l) u a
 | [], u => by rw [renYs]; rfl
 | x :: a, u => by rw [renYs, foldR, renYs_f l a]
theorem renEs_f (l : Bnd) : ∀ (a : List Exp) (u : List ByteArray), renEs NFp l u a = foldR (renE NFp l) u a
 | [], u => by rw [renEs]; rfl
 | x :: a, u => by rw [renEs, foldR, renEs_f l a]
theorem renRs_f (l : Bnd) : ∀ (a : List Rhs) (u : List ByteArray), renRs NFp l u a = foldR (renR NFp l) u a
 | [], u => by rw [renRs]; rfl
 | x :: a, u => by rw [renRs, foldR, renRs_f l a]
theorem renMs_f (l : Bnd) : ∀ (a : List Arm) (u : List ByteArray), renMs NFp l u a = foldR (renM NFp l) u a
 | [], u => by rw [renMs]; rfl
 | x :: a, u => by rw [renMs, foldR, renMs_f l a]
theorem bYs_f : ∀ a : List Ty, bYs a = a.flatMap bY
 | [] => by rw [bYs]; rfl
 | x :: a => by rw [bYs, List.flatMap_cons, bYs_f a]
theorem bEs_f : ∀ a : List Exp, bEs a = a.flatMap bE
 | [] => by rw [bEs]; rfl
 | x :: a => by rw [bEs, List.flatMap_cons, bEs_f a]
theorem bRs_f : ∀ a : List Rhs, bRs a = a.flatMap bR
 | [] => by rw [bRs]; rfl
 | x :: a => by rw [bRs, List.flatMap_cons, bRs_f a]
theorem bMs_f : ∀ a : List Arm, bMs a = a.flatMap bM
 | [] => by rw [bMs]; rfl
 | x :: a => by rw [bMs, List.flatMap_cons, bMs_f a]
theorem Anew.len {u u' b b0 : List ByteArray} (h : Anew u u' b b0) : u'.length = u.length + b0.length := by rw [h.1, List.length_append, h.2.1]
structure Grow (q : RQ) (σ0 σ : Sto) (m : Nat) (e : TypeId) (tok : Tok) : Prop where
 t : TokS σ m e tok
 o : ∀ p, tok = .own p → ¬ Own q σ p ∧ σ0.length ≤ p
theorem Grow.nil (q : RQ) (σ0 σ : Sto) (e : TypeId) : Grow q σ0 σ 0 e .full := ⟨.inl ⟨rfl, rfl⟩, fun p h => by cases h⟩
theorem Grow.keep {q : RQ} {V : Nat → Prop} {σ0 σ σ' : Sto} {m : Nat} {e : TypeId} {tok : Tok} (h : Grow q σ0 σ m e tok) (hf : Fr q V σ σ') (hV : ∀ p, V p → tok ≠ .own p) : Grow q σ0 σ' m e tok := by
 refine ⟨?_, fun p hp => ?_⟩
 · rcases h.t with g | ⟨i, e1, e2⟩
   · exact .inl g
   · have hl := (List.getElem?_eq_some_iff.1 e2).1
     exact .inr ⟨i, e1, by rw [hf.keep i hl (h.o i e1).1 fun v => hV i v e1]; exact e2⟩
 · have h1 := h.o p hp
   rcases h.t with ⟨g, _⟩ | ⟨i, e1, e2⟩
   · rw [g] at hp; cases hp
   · rw [e1] at hp
     cases hp
     exact ⟨hf.not h1.1 (List.getElem?_eq_some_iff.1 e2).1, h1.2⟩
theorem Grow.next {q : RQ} {u : List ByteArray} {st : ByteArray → List ByteArray} {σ0 σ σ' : Sto} {m m' : Nat} {e : TypeId} {tok tok' : Tok} (h : Grow q σ0 σ m e tok) (hs : St q u st σ) (hl0 : σ0.length ≤ σ.length) (ht : TokS σ' m' e tok') (hl : σ.length ≤ σ'.length) (hk : ∀ p, p < σ.length → tok ≠ .own p → σ'[p]? = σ[p]?) (ho : ∀ i, tok' = .own i → tok = .own i ∨ σ.length ≤ i) :
    Grow q σ0 σ' m' e tok' ∧ St q u st σ' ∧ Fr q (fun p => tok = .own p) σ σ' := by
 have hown : ∀ p, Own q σ p → σ'[p]? = σ[p]? := fun p hp => hk p (hs.lt hp) fun e => (h.o p e).1 hp
 refine ⟨⟨ht, fun p hp => ?_⟩, hs.keep hown, hl, fun p hp _ hv => hk p hp hv, fun p hp => .inl ((own_keep hown p).1 hp)⟩
 rcases ho p hp with g | g
 · exact ⟨fun x => (h.o p g).1 ((own_keep hown p).1 x), (h.o p g).2⟩
 · exact ⟨fun x => by have := hs.lt ((own_keep hown p).1 x); omega, by omega⟩
end
end Go.Proofs.YteajcnilihgheaaGreatDoor
