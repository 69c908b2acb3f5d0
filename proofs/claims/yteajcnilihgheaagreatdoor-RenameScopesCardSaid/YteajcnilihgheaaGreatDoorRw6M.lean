/-
 EV: the package rename: what only reads: kept; each of atoms, types, parameters (printed by gen_rw6.py).
-/
import Derived.Test.YteajcnilihgheaaGreatDoorRw1M
import Derived.Test.YteajcnilihgheaaGreatDoorKSameM
import Derived.Shelf.LaysM
import Derived.Shelf.Strconv.Itoa3
import Derived.Shelf.Sort.Plain
import Derived.Shelf.Slices.CompactS
import Derived.Shelf.Slices.Cells
import Derived.Shelf.Slices.In.SortNone
import Derived.Shelf.Strings.LastIndex
import Derived.Shelf.Strings.SlTrimAscii
import Derived.Shelf.SlIter.Nil
import Derived.Shelf.SortM.Plain
import Derived.Shelf.SortM.SortNone
import Derived.Ground.GgzProg
import Derived.Ground.SlgmProg
import Derived.Test.YteajcnilihgheaaGreatDoorProg
namespace Go.Proofs.YteajcnilihgheaaGreatDoor
set_option linter.unusedSimpArgs false
set_option linter.unusedVariables false
open Go.RowKit
variable {S : Sp} {N : Nat}
abbrev ratomF : FS := ⟨RS × Atm, fun p => [.ptr p.1.rid 0, .agg p.2.cs], fun p σ => p.1.At σ ∧ p.2.n ≤ 1000000000, fun p σ => (.ret (.agg (renA p.1.l p.2).cs), σ), fun p => 16 * p.2.n + 1⟩
theorem ratomF_uniq : FS.uniq ratomF := fun a b σ e ha hb => by
 obtain ⟨m, t⟩ := a; obtain ⟨m', t'⟩ := b
 simp only [List.cons.injEq, AV.ptr.injEq, AV.agg.injEq, and_true] at e
 obtain ⟨e1, e2⟩ := e
 cases Atm.inj e2
 dsimp only
 rw [renA_congr (RS.uniq e1 ha.1 hb.1)]
theorem call_ratom {P : Program} {args : List AV} {σ : Sto} {Q : ARes → Sto → Prop} (m : RS) (t : Atm) (h : S.sp 61 = some ratomF) (ha : nrmR args = [.ptr m.rid 0, .agg t.cs]) (hb : m.At σ) (hn : t.n ≤ 1000000000) (hN : 16 * t.n + 1 < N)
    (hq : accW (S.E N) 61 args σ (.ret (.agg (renA m.l t).cs)) σ = .lcalls (fun _ => true) → Q (.ret (.agg (renA m.l t).cs)) σ) : CallW P (S.E N) 61 args σ Q :=
 call_sp (s := ratomF) (m, t) h ratomF_uniq ha ⟨hb, hn⟩ hN (hq (by have := acc_sp (σ := σ) (s := ratomF) (m, t) h ratomF_uniq ha hN rfl (fun l => ⟨⟨hb.app l, hn⟩, rfl⟩); rw [kept_self] at this; exact this))
def renAs (l : Bnd) (a : List Atm) : List Atm := a.map (renA l)
theorem renAs_len {l : Bnd} {a : List Atm} : (renAs l a).length = a.length := List.length_map _
theorem renAs_app {l : Bnd} {a b : List Atm} : renAs l (a ++ b) = renAs l a ++ renAs l b := List.map_append
abbrev reachAF : FS := ⟨RS × List Atm, fun p => [.sl (atmR p.2) .no, .fn (.func 61) [.ptr p.1.rid 0] []], fun p σ => p.1.At σ ∧ atmN p.2 ≤ 1000000000, fun p σ => (.ret (.sl (atmR (renAs p.1.l p.2)) .no), σ), fun p => 16 * atmN p.2 + 2⟩
theorem reachAF_uniq : FS.uniq reachAF := fun a b σ e ha hb => by
 obtain ⟨m, t⟩ := a; obtain ⟨m', t'⟩ := b
 simp only [List.cons.injEq, AV.sl.injEq, AV.fn.injEq, AV.ptr.injEq, and_true, true_and] at e
 obtain ⟨e1, e2⟩ := e
 cases atmR_inj e1
 dsimp only
 rw [show renAs m.l t = renAs m'.l t from List.map_congr_left fun x _ => renA_congr (RS.uniq e2 ha.1 hb.1) x]
theorem call_reachA {P : Program} {args : List AV} {σ : Sto} {Q : ARes → Sto → Prop} (m : RS) (l : List Atm) (h : S.sp 96 = some reachAF) (ha : nrmR args = [.sl (atmR l) .no, .fn (.func 61) [.ptr m.rid 0] []]) (hb : m.At σ) (hn : atmN l ≤ 1000000000) (hN : 16 * atmN l + 2 < N)
    (hq : accW (S.E N) 96 args σ (.ret (.sl (atmR (renAs m.l l)) .no)) σ = .lcalls (fun _ => true) → Q (.ret (.sl (atmR (renAs m.l l)) .no)) σ) : CallW P (S.E N) 96 args σ Q :=
 call_sp (s := reachAF) (m, l) h reachAF_uniq ha ⟨hb, hn⟩ hN (hq (by have := acc_sp (σ := σ) (s := reachAF) (m, l) h reachAF_uniq ha hN rfl (fun k => ⟨⟨hb.app k, hn⟩, rfl⟩); rw [kept_self] at this; exact this))
abbrev rkeptF : FS := pureF (fun t : Ty => [.agg t.cs]) (fun t => .agg t.cs) Ty.n 4
abbrev rkeptPF : FS := pureF (fun t : Prm => [.agg t.cs]) (fun t => .agg t.cs) Prm.n 5
abbrev reachYF : FS := pureF (fun t : List Ty => [.sl (tyR t) .no, .fn (.func 89) [] []]) (fun t => .sl (tyR t) .no) tyN 6
abbrev reachPF : FS := pureF (fun t : List Prm => [.sl (prmR t) .no, .fn (.func 122) [] []]) (fun t => .sl (prmR t) .no) prmN 7
theorem ty1_inj (a b : Ty) (e : [AV.agg a.cs] = [.agg b.cs]) : a = b := by simp only [List.cons.injEq, and_true, AV.agg.injEq] at e; exact Ty.inj e
theorem pr1_inj (a b : Prm) (e : [AV.agg a.cs] = [.agg b.cs]) : a = b := by simp only [List.cons.injEq, and_true, AV.agg.injEq] at e; exact Prm.inj e
theorem tys_inj {f : AV} (a b : List Ty) (e : [AV.sl (tyR a) .no, f] = [.sl (tyR b) .no, f]) : a = b := by simp only [List.cons.injEq, and_true, AV.sl.injEq] at e; exact tyR_inj e
theorem prs_inj {f : AV} (a b : List Prm) (e : [AV.sl (prmR a) .no, f] = [.sl (prmR b) .no, f]) : a = b := by simp only [List.cons.injEq, and_true, AV.sl.injEq] at e; exact prmR_inj e
set_option maxRecDepth 100000 in
set_option maxHeartbeats 2000000 in
theorem reachA_w (hc : S.code = codeP Tryz.prog) (hm : S.ms 96 = []) (h1 : S.sp 61 = some ratomF) (m : RS) (a : List Atm) (σ : Sto) (he : m.At σ) (hl : atmN a ≤ 1000000000) (hN : 16 * atmN a + 2 ≤ N) :
    JC Tryz.prog (S.E N) 96 [.sl (atmR a) .no, .fn (.func 61) [.ptr m.rid 0] []] σ fun r σ' => Fgt σ r σ' (.ret (.sl (atmR (renAs m.l a)) .no)) σ := by
 refine JC.startF (fn := Tryz.f96) (codeOf hc Tryz.func96 rfl (by kernel_rfl)) rfl hm rfl (zL rfl) fun tm => ?_
 refine CW.hide fun R0 hR0 => ?_
 have hlen : a.length ≤ atmN a := atmN_len a
 refine CW.seqK fun K hK => CW.region ?_
 simp (maxDischargeDepth := 16) [zY]
 refine hK _ _ ?_; clear hK K
 refine CW.seqK fun K hK => CW.region ?_
 simp (maxDischargeDepth := 16) [zY]
 refine hK _ _ ?_; clear hK K
 refine CW.seqK fun K hK => ?_
 refine CW.seqK fun K hK => CW.region ?_
 simp (maxDischargeDepth := 16) [zY]
 refine hK _ _ ?_; clear hK K
 refine CW.block (CW.hide fun R hR => ?_)
 refine CW.loopF (fun p : Nat × Tok × List AObj => [(1, .fn (.func 61) [.ptr m.rid 0] []), (5, .sl (atmR (renAs m.l (a.take p.1))) p.2.1), (8, .sl (atmR a) .no), (9, intV a.length), (10, intV p.1)]) (fun p => σ ++ p.2.2) (fun p => p.1 ≤ a.length ∧ Apd σ 41 (p.1 * 5) p.2.1 p.2.2) (fun p => a.length - p.1) (0, .full, []) (by simp [sub, lk, renAs, atmR]) (by simp) ⟨by simp, by simpa using Apd.nil σ _ []⟩ ?_
 rintro ⟨i, tok, g⟩ tm ⟨hi, hA⟩
 dsimp only at hi hA ⊢
 refine CW.hide fun R2 hR2 => CW.seqK fun K4 hK4 => CW.region ?_
 rcases Nat.lt_or_ge i a.length with hlt | hge
 · have ha := atmR_get hlt
   have hg := atmN_get hlt
   have hti : (renAs m.l (a.take i)).length = i := by simp only [renAs_len]; exact List.length_take_of_le hi
   obtain ⟨tok', g', acc, hA', hap⟩ := apd (P := Tryz.prog) (M := []) (t := 43) (e := 41) (k := 4) (by_ := 64) (atmR (renAs m.l (a.take i))) [((renA m.l) a[i]).cs] (by rw [atmR_len, hti]; exact hA.push [.cells a[i].cs 41]) (by kernel_rfl) (by kernel_rfl) (by kernel_rfl) (by kernel_rfl) (atmR_hd _) (by simp [Atm.len]) (by simp) (by simp only [atmR_len, hti, List.length_singleton]; omega) (by simp only [atmR_len, hti, List.length_singleton]; omega)
   simp (maxDischargeDepth := 16) [zY, hlt]
   refine hK4 _ _ ?_
   refine CW.seqK fun K3 hK3 => ?_
   refine CW.cond (t := true) (by simp [zT, zF, lk]) ?_
   refine CW.skip (hK3 _ _ ?_)
   refine CW.seqK fun K5 hK5 => CW.block ?_
   refine CW.seqK fun K hK => CW.region ?_
   simp (maxDischargeDepth := 16) [zY, ha, Atm.len, Atm.tk, Atm.put, set_last]
   refine hK _ _ ?_; clear hK K
   refine CW.region ?_
   simp (maxDischargeDepth := 16) [zY, Atm.len, Atm.tk]
   refine call_ratom m a[i] h1 (by simp only [nrmR, AV.nrm, Atm.nrm]) (he.app _) (by omega) (by omega) fun _ => ?_
   simp (maxDischargeDepth := 16) [zY, Atm.len, Atm.tk, Atm.put, hap]
   refine hK5 _ _ ?_
   refine CW.region ?_
   simp (maxDischargeDepth := 16) [zY, wrap_succ (show i ≤ 1000000000000 by omega)]
   refine hR2 _ _ _ ⟨(i + 1, tok', g'), _, _, rfl, ?_, rfl, ⟨hlt, ?_⟩, show a.length - (i + 1) < a.length - i by omega⟩
   · have e : atmR (renAs m.l (a.take (i + 1))) = atmR (renAs m.l (a.take i)) ++ [((renA m.l) a[i]).cs] := by rw [List.take_succ_eq_append_getElem hlt]; rw [renAs_app, atmR_app]; rfl
     simp [sub, lk, e, stripRows, Atm.stp]
   · simpa only [atmR_len, hti, List.length_singleton] using hA'
 · simp (maxDischargeDepth := 16) [zY, Nat.not_lt.2 hge]
   refine hK4 _ _ ?_
   refine CW.seqK fun K3 hK3 => ?_
   refine CW.cond (t := false) (by simp [zT, zF, lk]) ?_
   refine CW.exit (hR2 _ _ _ (hR _ _ _ ?_))
   simp only [outOf, if_true, andThen]
   refine hK _ _ ?_
   rw [List.take_of_length_le hge]
   refine CW.seqK fun K hK => CW.region ?_
   simp (maxDischargeDepth := 16) [zY]
   refine hK _ _ ?_; clear hK K
   refine CW.ret (hR0 _ _ _ ⟨.sl (atmR (renAs m.l a)) tok, by simp [zA, omap, zB, zF, lk], done (by simp [AV.pln, atmR_pln]) (by simp [AV.nrm, atmR_nrm])⟩)
set_option maxRecDepth 100000 in
set_option maxHeartbeats 2000000 in
theorem reachY_w (hc : S.code = codeP Tryz.prog) (hm : S.ms 56 = []) (h1 : S.sp 89 = some rkeptF) (a : List Ty) (σ : Sto) (hl : tyN a ≤ 1000000000) (hN : 16 * tyN a + 6 ≤ N) :
    JC Tryz.prog (S.E N) 56 [.sl (tyR a) .no, .fn (.func 89) [] []] σ fun r σ' => Fgt σ r σ' (.ret (.sl (tyR a) .no)) σ := by
 refine JC.startF (fn := Tryz.f56) (codeOf hc Tryz.func56 rfl (by kernel_rfl)) rfl hm rfl (zL rfl) fun tm => ?_
 refine CW.hide fun R0 hR0 => ?_
 have hlen : a.length ≤ tyN a := tyN_len a
 refine CW.seqK fun K hK => CW.region ?_
 simp (maxDischargeDepth := 16) [zY]
 refine hK _ _ ?_; clear hK K
 refine CW.seqK fun K hK => CW.region ?_
 simp (maxDischargeDepth := 16) [zY]
 refine hK _ _ ?_; clear hK K
 refine CW.seqK fun K hK => ?_
 refine CW.seqK fun K hK => CW.region ?_
 simp (maxDischargeDepth := 16) [zY]
 refine hK _ _ ?_; clear hK K
 refine CW.block (CW.hide fun R hR => ?_)
 refine CW.loopF (fun p : Nat × Tok × List AObj => [(1, .fn (.func 89) [] []), (5, .sl (tyR (a.take p.1)) p.2.1), (8, .sl (tyR a) .no), (9, intV a.length), (10, intV p.1)]) (fun p => σ ++ p.2.2) (fun p => p.1 ≤ a.length ∧ Apd σ 34 (p.1 * 9) p.2.1 p.2.2) (fun p => a.length - p.1) (0, .full, []) (by simp [sub, lk, tyR]) (by simp) ⟨by simp, by simpa using Apd.nil σ _ []⟩ ?_
 rintro ⟨i, tok, g⟩ tm ⟨hi, hA⟩
 dsimp only at hi hA ⊢
 refine CW.hide fun R2 hR2 => CW.seqK fun K4 hK4 => CW.region ?_
 rcases Nat.lt_or_ge i a.length with hlt | hge
 · have ha := tyR_get hlt
   have hg := tyN_get hlt
   have hti : (a.take i).length = i := List.length_take_of_le hi
   obtain ⟨tok', g', acc, hA', hap⟩ := apd (P := Tryz.prog) (M := []) (t := 32) (e := 34) (k := 8) (by_ := 152) (tyR (a.take i)) [a[i].cs] (by rw [tyR_len, hti]; exact hA.push [.cells a[i].cs 34]) (by kernel_rfl) (by kernel_rfl) (by kernel_rfl) (by kernel_rfl) (tyR_hd _) (by simp [Ty.len]) (by simp) (by simp only [tyR_len, hti, List.length_singleton]; omega) (by simp only [tyR_len, hti, List.length_singleton]; omega)
   simp (maxDischargeDepth := 16) [zY, hlt]
   refine hK4 _ _ ?_
   refine CW.seqK fun K3 hK3 => ?_
   refine CW.cond (t := true) (by simp [zT, zF, lk]) ?_
   refine CW.skip (hK3 _ _ ?_)
   refine CW.seqK fun K5 hK5 => CW.block ?_
   refine CW.seqK fun K hK => CW.region ?_
   simp (maxDischargeDepth := 16) [zY, ha, Ty.len, Ty.tk, Ty.put, set_last]
   refine hK _ _ ?_; clear hK K
   refine CW.region ?_
   simp (maxDischargeDepth := 16) [zY, Ty.len, Ty.tk]
   refine call_pure a[i] h1 ty1_inj (by simp only [nrmR, AV.nrm, Ty.nrm]) (by omega) (by omega) fun _ => ?_
   simp (maxDischargeDepth := 16) [zY, Ty.len, Ty.tk, Ty.put, hap]
   refine hK5 _ _ ?_
   refine CW.region ?_
   simp (maxDischargeDepth := 16) [zY, wrap_succ (show i ≤ 1000000000000 by omega)]
   refine hR2 _ _ _ ⟨(i + 1, tok', g'), _, _, rfl, ?_, rfl, ⟨hlt, ?_⟩, show a.length - (i + 1) < a.length - i by omega⟩
   · have e : tyR (a.take (i + 1)) = tyR (a.take i) ++ [a[i].cs] := by rw [List.take_succ_eq_append_getElem hlt]; rw [tyR_app]; rfl
     simp [sub, lk, e, stripRows, Ty.stp]
   · simpa only [tyR_len, hti, List.length_singleton] using hA'
 · simp (maxDischargeDepth := 16) [zY, Nat.not_lt.2 hge]
   refine hK4 _ _ ?_
   refine CW.seqK fun K3 hK3 => ?_
   refine CW.cond (t := false) (by simp [zT, zF, lk]) ?_
   refine CW.exit (hR2 _ _ _ (hR _ _ _ ?_))
   simp only [outOf, if_true, andThen]
   refine hK _ _ ?_
   rw [List.take_of_length_le hge]
   refine CW.seqK fun K hK => CW.region ?_
   simp (maxDischargeDepth := 16) [zY]
   refine hK _ _ ?_; clear hK K
   refine CW.ret (hR0 _ _ _ ⟨.sl (tyR a) tok, by simp [zA, omap, zB, zF, lk], done (by simp [AV.pln, tyR_pln]) (by simp [AV.nrm, tyR_nrm])⟩)
set_option maxRecDepth 100000 in
set_option maxHeartbeats 2000000 in
theorem reachP_w (hc : S.code = codeP Tryz.prog) (hm : S.ms 121 = []) (h1 : S.sp 122 = some rkeptPF) (a : List Prm) (σ : Sto) (hl : prmN a ≤ 1000000000) (hN : 16 * prmN a + 7 ≤ N) :
    JC Tryz.prog (S.E N) 121 [.sl (prmR a) .no, .fn (.func 122) [] []] σ fun r σ' => Fgt σ r σ' (.ret (.sl (prmR a) .no)) σ := by
 refine JC.startF (fn := Tryz.f121) (codeOf hc Tryz.func121 rfl (by kernel_rfl)) rfl hm rfl (zL rfl) fun tm => ?_
 refine CW.hide fun R0 hR0 => ?_
 have hlen : a.length ≤ prmN a := prmN_len a
 refine CW.seqK fun K hK => CW.region ?_
 simp (maxDischargeDepth := 16) [zY]
 refine hK _ _ ?_; clear hK K
 refine CW.seqK fun K hK => CW.region ?_
 simp (maxDischargeDepth := 16) [zY]
 refine hK _ _ ?_; clear hK K
 refine CW.seqK fun K hK => ?_
 refine CW.seqK fun K hK => CW.region ?_
 simp (maxDischargeDepth := 16) [zY]
 refine hK _ _ ?_; clear hK K
 refine CW.block (CW.hide fun R hR => ?_)
 refine CW.loopF (fun p : Nat × Tok × List AObj => [(1, .fn (.func 122) [] []), (5, .sl (prmR (a.take p.1)) p.2.1), (8, .sl (prmR a) .no), (9, intV a.length), (10, intV p.1)]) (fun p => σ ++ p.2.2) (fun p => p.1 ≤ a.length ∧ Apd σ 37 (p.1 * 10) p.2.1 p.2.2) (fun p => a.length - p.1) (0, .full, []) (by simp [sub, lk, prmR]) (by simp) ⟨by simp, by simpa using Apd.nil σ _ []⟩ ?_
 rintro ⟨i, tok, g⟩ tm ⟨hi, hA⟩
 dsimp only at hi hA ⊢
 refine CW.hide fun R2 hR2 => CW.seqK fun K4 hK4 => CW.region ?_
 rcases Nat.lt_or_ge i a.length with hlt | hge
 · have ha := prmR_get hlt
   have hg := prmN_get hlt
   have hti : (a.take i).length = i := List.length_take_of_le hi
   obtain ⟨tok', g', acc, hA', hap⟩ := apd (P := Tryz.prog) (M := []) (t := 31) (e := 37) (k := 9) (by_ := 168) (prmR (a.take i)) [a[i].cs] (by rw [prmR_len, hti]; exact hA.push [.cells a[i].cs 37]) (by kernel_rfl) (by kernel_rfl) (by kernel_rfl) (by kernel_rfl) (prmR_hd _) (by simp [Prm.len]) (by simp) (by simp only [prmR_len, hti, List.length_singleton]; omega) (by simp only [prmR_len, hti, List.length_singleton]; omega)
   simp (maxDischargeDepth := 16) [zY, hlt]
   refine hK4 _ _ ?_
   refine CW.seqK fun K3 hK3 => ?_
   refine CW.cond (t := true) (by simp [zT, zF, lk]) ?_
   refine CW.skip (hK3 _ _ ?_)
   refine CW.seqK fun K5 hK5 => CW.block ?_
   refine CW.seqK fun K hK => CW.region ?_
   simp (maxDischargeDepth := 16) [zY, ha, Prm.len, Prm.tk, Prm.put, set_last]
   refine hK _ _ ?_; clear hK K
   refine CW.region ?_
   simp (maxDischargeDepth := 16) [zY, Prm.len, Prm.tk]
   refine call_pure a[i] h1 pr1_inj (by simp only [nrmR, AV.nrm, Prm.nrm]) (by omega) (by omega) fun _ => ?_
   simp (maxDischargeDepth := 16) [zY, Prm.len, Prm.tk, Prm.put, hap]
   refine hK5 _ _ ?_
   refine CW.region ?_
   simp (maxDischargeDepth := 16) [zY, wrap_succ (show i ≤ 1000000000000 by omega)]
   refine hR2 _ _ _ ⟨(i + 1, tok', g'), _, _, rfl, ?_, rfl, ⟨hlt, ?_⟩, show a.length - (i + 1) < a.length - i by omega⟩
   · have e : prmR (a.take (i + 1)) = prmR (a.take i) ++ [a[i].cs] := by rw [List.take_succ_eq_append_getElem hlt]; rw [prmR_app]; rfl
     simp [sub, lk, e, stripRows, Prm.stp]
   · simpa only [prmR_len, hti, List.length_singleton] using hA'
 · simp (maxDischargeDepth := 16) [zY, Nat.not_lt.2 hge]
   refine hK4 _ _ ?_
   refine CW.seqK fun K3 hK3 => ?_
   refine CW.cond (t := false) (by simp [zT, zF, lk]) ?_
   refine CW.exit (hR2 _ _ _ (hR _ _ _ ?_))
   simp only [outOf, if_true, andThen]
   refine hK _ _ ?_
   rw [List.take_of_length_le hge]
   refine CW.seqK fun K hK => CW.region ?_
   simp (maxDischargeDepth := 16) [zY]
   refine hK _ _ ?_; clear hK K
   refine CW.ret (hR0 _ _ _ ⟨.sl (prmR a) tok, by simp [zA, omap, zB, zF, lk], done (by simp [AV.pln, prmR_pln]) (by simp [AV.nrm, prmR_nrm])⟩)
set_option maxRecDepth 100000 in
set_option maxHeartbeats 2000000 in
theorem rkeptP_w (hc : S.code = codeP Tryz.prog) (hm : S.ms 122 = []) (h1 : S.sp 89 = some rkeptF) : PureOk Tryz.prog S N 122 (fun t : Prm => [.agg t.cs]) (fun t => .agg t.cs) Prm.n 5 := by
 intro t σ hl hN
 refine JC.startF (fn := Tryz.f122) (codeOf hc Tryz.func122 rfl (by kernel_rfl)) rfl hm rfl (zL rfl) fun tm => ?_
 refine CW.hide fun R0 hR0 => ?_
 obtain ⟨nm, ⟨fn, st, ⟨rfk, rfnm, rfng, rfdg, rfks⟩, ps, rs⟩⟩ := t
 simp only [Prm.n] at hl hN
 simp only [Prm.cs]
 refine CW.seqK fun K hK => CW.region ?_
 simp (maxDischargeDepth := 16) [zY]
 refine hK _ _ ?_; clear hK K
 refine CW.seqK fun K hK => CW.draw (by kernel_rfl) ?_
 simp (maxDischargeDepth := 16) [zY]
 refine call_pure (Ty.mk fn st (.mk rfk rfnm rfng rfdg rfks) ps rs) h1 ty1_inj (by simp only [nrmR, AV.nrm, limR_nrm, trmR_nrm, prmR_nrm, tyR_nrm, Ty.cs]) (by simp only [Ty.n]; omega) (by simp only [Ty.n]; omega) fun hac => ?_
 simp only [Ty.cs] at hac ⊢
 simp (maxDischargeDepth := 16) [zY, hac]
 refine ⟨drawOk_sim [σ.length, (σ.length + 1)] [.pure, .reads 0, .pure, .reads 0, .lcalls (fun _ => true), .pure, .writes 1] (.cons (by simp) (.cons (by simp) .nil)) (.cons .pure (.cons (.reads 0 _ rfl) (.cons .pure (.cons (.reads 0 _ rfl) (.cons (.lcalls _ _ fun i a ha hi => rfl) (.cons .pure (.cons (.writes 1 _ rfl) .nil))))))) (by kernel_rfl), hK _ _ ?_⟩; clear hK K
 exact CW.ret (hR0 _ _ _ ⟨.agg [.lit (.string nm), .lit (.bool fn), .lit (.string st), .lit (.int .u8 rfk), .lit (.string rfnm), .lit (.bool rfng), .sl (limR rfdg) .no, .sl (trmR rfks) .no, .sl (prmR ps) .no, .sl (tyR rs) .no], by simp [zA, omap, zC, zX], done (by simp [AV.pln, plnR, trmR_pln, prmR_pln, tyR_pln]) (by simp [AV.nrm, nrmR, trmR_nrm, prmR_nrm, tyR_nrm, Prm.cs])⟩)
set_option maxRecDepth 100000 in
set_option maxHeartbeats 2000000 in
theorem rkept_w (hc : S.code = codeP Tryz.prog) (hm : S.ms 89 = []) (h1 : S.sp 120 = some raloneF) (h2 : S.sp 56 = some reachYF) (h3 : S.sp 121 = some reachPF) : PureOk Tryz.prog S N 89 (fun t : Ty => [.agg t.cs]) (fun t => .agg t.cs) Ty.n 4 := by
 intro t σ hl hN
 refine JC.startF (fn := Tryz.f89) (codeOf hc Tryz.func89 rfl (by kernel_rfl)) rfl hm rfl (zL rfl) fun tm => ?_
 refine CW.hide fun R0 hR0 => ?_
 obtain ⟨fn, st, ⟨rfk, rfnm, rfng, rfdg, rfks⟩, ps, rs⟩ := t
 simp only [Ty.n] at hl hN
 simp only [Ty.cs]
 refine CW.seqK fun K hK => CW.region ?_
 simp (maxDischargeDepth := 16) [zY]
 refine hK _ _ ?_; clear hK K
 refine CW.seqK fun K hK => CW.draw (by kernel_rfl) ?_
 simp (maxDischargeDepth := 16) [zY]
 refine call_pure (Trm.mk rfk rfnm rfng rfdg rfks) h1 rt1_inj (by simp only [nrmR, AV.nrm, limR_nrm, trmR_nrm, Trm.cs]) (by simp only [Trm.n]; omega) (by simp only [Trm.n]; omega) fun hac => ?_
 simp only [Trm.cs] at hac ⊢
 simp (maxDischargeDepth := 16) [zY, hac]
 refine call_pure rs h2 tys_inj (by simp only [nrmR, AV.nrm, tyR_nrm]) (by omega) (by omega) fun hac2 => ?_
 simp (maxDischargeDepth := 16) [zY, hac, hac2]
 refine ⟨drawOk_sim [σ.length] [.pure, .reads 0, .lcalls (fun _ => true), .pure, .reads 0, .lcalls (fun _ => true), .pure, .writes 0, .pure, .writes 0] (.cons (by simp) .nil) (.cons .pure (.cons (.reads 0 _ rfl) (.cons (.lcalls _ _ fun i a ha hi => rfl) (.cons .pure (.cons (.reads 0 _ rfl) (.cons (.lcalls _ _ fun i a ha hi => rfl) (.cons .pure (.cons (.writes 0 _ rfl) (.cons .pure (.cons (.writes 0 _ rfl) .nil)))))))))) (by kernel_rfl), hK _ _ ?_⟩; clear hK K
 refine CW.seqK fun K hK => CW.region ?_
 simp (maxDischargeDepth := 16) [zY]
 refine call_pure ps h3 prs_inj (by simp only [nrmR, AV.nrm, prmR_nrm]) (by omega) (by omega) fun _ => ?_
 simp (maxDischargeDepth := 16) [zY]
 refine hK _ _ ?_; clear hK K
 refine CW.seqK fun K hK => CW.region ?_
 simp (maxDischargeDepth := 16) [zY]
 refine hK _ _ ?_; clear hK K
 exact CW.ret (hR0 _ _ _ ⟨.agg [.lit (.bool fn), .lit (.string st), .lit (.int .u8 rfk), .lit (.string rfnm), .lit (.bool rfng), .sl (limR rfdg) .no, .sl (trmR rfks) .no, .sl (prmR ps) .no, .sl (tyR rs) .no], by simp [zA, omap, zC, zX], done (by simp [AV.pln, plnR, trmR_pln, prmR_pln, tyR_pln]) (by simp [AV.nrm, nrmR, trmR_nrm, prmR_nrm, tyR_nrm, Ty.cs])⟩)
end Go.Proofs.YteajcnilihgheaaGreatDoor
namespace Go.Proofs.YteajcnilihgheaaGreatDoor
set_option linter.unusedSimpArgs false
set_option linter.unusedVariables false
open Go.RowKit
def gst (n m : Int) (f : Int → Int) : Int := if n ≤ m then IntKind.i64.wrap (n + f (IntKind.i64.wrap (m - n))) else n
abbrev smF {α : Type} (A : α → List AV) (R : α → AV) (p : α → Prop) (n : α → Nat) (r : Nat) : FS := ⟨α, A, fun a _ => p a, fun a σ => (.ret (R a), σ), fun a => 16 * n a + r⟩
theorem call_sm {P : Program} {S : Sp} {N r : Nat} {f : FuncId} {α : Type} {A : α → List AV} {R : α → AV} {p : α → Prop} {n : α → Nat} {args : List AV} {σ : Sto} {Q : ARes → Sto → Prop} (x : α) (h : S.sp f = some (smF A R p n r)) (hi : ∀ a b : α, A a = A b → a = b) (ha : nrmR args = A x) (hb : p x) (hN : 16 * n x + r < N)
    (hq : accW (S.E N) f args σ (.ret (R x)) σ = .lcalls (fun _ => true) → Q (.ret (R x)) σ) : CallW P (S.E N) f args σ Q :=
 have hu : FS.uniq (smF A R p n r) := fun a b σ e _ _ => by cases hi _ _ e; rfl
 call_sp x h hu ha hb hN (hq (by have := acc_sp (σ := σ) x h hu ha hN rfl (fun l => ⟨hb, rfl⟩); rw [kept_self] at this; exact this))
abbrev SmOk (P : Program) (S : Sp) (N : Nat) (f : FuncId) {α : Type} (A : α → List AV) (R : α → AV) (p : α → Prop) (n : α → Nat) (r : Nat) : Prop := ∀ (a : α) (σ : Sto), p a → 16 * n a + r ≤ N → JC P (S.E N) f (A a) σ fun r σ' => Fgt σ r σ' (.ret (R a)) σ
mutual
def Trm.sm : Trm → Prop
 | .mk k nm ng dg ks => nm.size ≤ 140737488355328 ∧ dg.length ≤ 140737488355328 ∧ ks.length ≤ 140737488355328 ∧ trmSm ks
def trmSm : List Trm → Prop
 | [] => True
 | x :: l => x.sm ∧ trmSm l
end
mutual
def Ty.sm : Ty → Prop
 | .mk fn st rf ps rs => st.size ≤ 140737488355328 ∧ rf.sm ∧ ps.length ≤ 140737488355328 ∧ prmSm ps ∧ rs.length ≤ 140737488355328 ∧ tySm rs
def tySm : List Ty → Prop
 | [] => True
 | x :: l => x.sm ∧ tySm l
def Prm.sm : Prm → Prop
 | .mk nm ty => nm.size ≤ 140737488355328 ∧ ty.sm
def prmSm : List Prm → Prop
 | [] => True
 | x :: l => x.sm ∧ prmSm l
end
def Atm.sm : Atm → Prop
 | .mk k nm ng dg tr => nm.size ≤ 140737488355328 ∧ dg.length ≤ 140737488355328
def atmSm : List Atm → Prop
 | [] => True
 | x :: l => x.sm ∧ atmSm l
mutual
def Exp.sm : Exp → Prop
 | .mk k nm ty rh am ar bd => nm.size ≤ 140737488355328 ∧ ty.length ≤ 140737488355328 ∧ tySm ty ∧ rh.length ≤ 140737488355328 ∧ rhsSm rh ∧ am.sm ∧ ar.length ≤ 140737488355328 ∧ armSm ar ∧ bd.length ≤ 140737488355328 ∧ expSm bd
def expSm : List Exp → Prop
 | [] => True
 | x :: l => x.sm ∧ expSm l
def Rhs.sm : Rhs → Prop
 | .mk k nm ats ps rs bd ts => nm.size ≤ 140737488355328 ∧ ats.length ≤ 140737488355328 ∧ atmSm ats ∧ ps.length ≤ 140737488355328 ∧ prmSm ps ∧ rs.length ≤ 140737488355328 ∧ tySm rs ∧ bd.length ≤ 140737488355328 ∧ expSm bd ∧ ts.length ≤ 140737488355328 ∧ trmSm ts
def rhsSm : List Rhs → Prop
 | [] => True
 | x :: l => x.sm ∧ rhsSm l
def Arm.sm : Arm → Prop
 | .mk cn ns bd => cn.size ≤ 140737488355328 ∧ ns.length ≤ 140737488355328 ∧ bd.length ≤ 140737488355328 ∧ expSm bd
def armSm : List Arm → Prop
 | [] => True
 | x :: l => x.sm ∧ armSm l
end
mutual
def trmOf : Trm → Int → Int
 | .mk k nm ng dg ks, m => IntKind.i64.wrap (IntKind.i64.wrap (IntKind.i64.wrap (1 + IntKind.i64.wrap (Int.tdiv nm.size 8)) + dg.length) + trmsGo ks (IntKind.i64.wrap (m - 1)) 0)
def trmsGo : List Trm → Int → Int → Int
 | [], m, n => n
 | x :: l, m, n => if n ≤ m then trmsGo l m (IntKind.i64.wrap (n + trmOf x (IntKind.i64.wrap (m - n)))) else n
end
mutual
def Ty.step : Ty → Int → Int → Int
 | .mk fn st (.mk rfk rfnm rfng rfdg rfks) ps rs, m, n => (gst (gst (IntKind.i64.wrap ((IntKind.i64.wrap (n + 1)) + trmOf (.mk rfk rfnm rfng rfdg rfks) (IntKind.i64.wrap (m - n)))) m fun m => prmsGo ps m 0) m fun m => tysGo rs m 0)
def tysGo : List Ty → Int → Int → Int
 | [], m, n => n
 | x :: l, m, n => if n ≤ m then tysGo l m (x.step m n) else n
def Prm.step : Prm → Int → Int → Int
 | .mk nm ty, m, n => IntKind.i64.wrap (IntKind.i64.wrap (n + 1) + if 0 ≤ IntKind.i64.wrap (m - n) then ty.step (IntKind.i64.wrap (m - n)) 0 else 0)
def prmsGo : List Prm → Int → Int → Int
 | [], m, n => n
 | x :: l, m, n => if n ≤ m then prmsGo l m (x.step m n) else n
end
def Atm.step : Atm → Int → Int → Int
 | .mk k nm ng dg tr, m, n => (IntKind.i64.wrap (n + dg.length))
def atmGo : List Atm → Int → Int → Int
 | [], m, n => n
 | x :: l, m, n => if n ≤ m then atmGo l m (x.step m n) else n
mutual
def Exp.step : Exp → Int → Int → Int
 | .mk k nm ty rh (.mk amk amnm amng amdg amtr) ar bd, m, n => (gst (armGo ar m (gst (gst (IntKind.i64.wrap ((IntKind.i64.wrap (n + 1)) + amdg.length)) m fun m => tysGo ty m 0) m fun m => rhssGo rh m 0)) m fun m => expsGo bd m 0)
def expsGo : List Exp → Int → Int → Int
 | [], m, n => n
 | x :: l, m, n => if n ≤ m then expsGo l m (x.step m n) else n
def Rhs.step : Rhs → Int → Int → Int
 | .mk k nm ats ps rs bd ts, m, n => (gst (gst (gst (gst (atmGo ats m (IntKind.i64.wrap ((IntKind.i64.wrap (n + 1)) + ats.length))) m fun m => prmsGo ps m 0) m fun m => tysGo rs m 0) m fun m => expsGo bd m 0) m fun m => trmsGo ts m 0)
def rhssGo : List Rhs → Int → Int → Int
 | [], m, n => n
 | x :: l, m, n => if n ≤ m then rhssGo l m (x.step m n) else n
def Arm.step : Arm → Int → Int → Int
 | .mk cn ns bd, m, n => (gst (IntKind.i64.wrap ((IntKind.i64.wrap (n + 1)) + ns.length)) m fun m => expsGo bd m 0)
def armGo : List Arm → Int → Int → Int
 | [], m, n => n
 | x :: l, m, n => if n ≤ m then armGo l m (x.step m n) else n
end
variable {S : Sp} {N : Nat}
end Go.Proofs.YteajcnilihgheaaGreatDoor
namespace Go.Proofs
open Go.Shelf
def Tryz.laysM171_ren : Go.Shelf.Ren := ⟨fun | 171 => 93 | 243 => 125 | 246 => 147 | 283 => 168 | 284 => 169 | 285 => 170 | 286 => 171 | 129 => 160 | 317 => 181 | 318 => 182 | 319 => 183 | 320 => 184 | 337 => 190 | 338 => 191 | n => n, fun | 3 => 3 | 9 => 9 | 2 => 2 | 4 => 4 | 171 => 250 | 0 => 0 | 53 => 113 | 37 => 74 | 5 => 5 | 173 => 252 | 212 => 263 | 51 => 110 | 20 => 20 | 213 => 264 | 46 => 69 | 232 => 275 | 233 => 276 | n => n, fun | 17 => 1 | 18 => 4 | 19 => 5 | n => n⟩
theorem Tryz.laysM171 : Go.Proofs.LaysM.n171 Tryz.prog Tryz.laysM171_ren := {
 mixed := by kernel_rfl
 f129 := Tryz.func160.trans (congrArg some (by kernel_rfl))
 f171 := Tryz.func93.trans (congrArg some (by kernel_rfl))
 f243 := Tryz.func125.trans (congrArg some (by kernel_rfl))
 f246 := Tryz.func147.trans (congrArg some (by kernel_rfl))
 f283 := Tryz.func168.trans (congrArg some (by kernel_rfl))
 f284 := Tryz.func169.trans (congrArg some (by kernel_rfl))
 f285 := Tryz.func170.trans (congrArg some (by kernel_rfl))
 f286 := Tryz.func171.trans (congrArg some (by kernel_rfl))
 f317 := Tryz.func181.trans (congrArg some (by kernel_rfl))
 f318 := Tryz.func182.trans (congrArg some (by kernel_rfl))
 f319 := Tryz.func183.trans (congrArg some (by kernel_rfl))
 f320 := Tryz.func184.trans (congrArg some (by kernel_rfl))
 f337 := Tryz.func190.trans (congrArg some (by kernel_rfl))
 f338 := Tryz.func191.trans (congrArg some (by kernel_rfl))
 t0 := Tryz.underlying0
 a0 := Tryz.isAgg0
 z0 := Tryz.sizeOf0
 v0 := Tryz.zeroValue0
 t2 := Tryz.underlying2
 a2 := Tryz.isAgg2
 z2 := Tryz.sizeOf2
 v2 := Tryz.zeroValue2
 t3 := Tryz.underlying3
 a3 := Tryz.isAgg3
 z3 := Tryz.sizeOf3
 v3 := Tryz.zeroValue3
 t4 := Tryz.underlying4
 a4 := Tryz.isAgg4
 z4 := Tryz.sizeOf4
 v4 := Tryz.zeroValue4
 t5 := Tryz.underlying5
 a5 := Tryz.isAgg5
 z5 := Tryz.sizeOf5
 v5 := Tryz.zeroValue5
 t9 := Tryz.underlying9
 a9 := Tryz.isAgg9
 z9 := Tryz.sizeOf9
 v9 := Tryz.zeroValue9
 t20 := Tryz.underlying20
 a20 := Tryz.isAgg20
 z20 := Tryz.sizeOf20
 v20 := Tryz.zeroValue20
 t37 := Tryz.underlying74
 a37 := Tryz.isAgg74
 z37 := Tryz.sizeOf74
 v37 := Tryz.zeroValue74
 t46 := Tryz.underlying69
 a46 := Tryz.isAgg69
 z46 := Tryz.sizeOf69
 v46 := Tryz.zeroValue69
 t51 := Tryz.underlying110
 a51 := Tryz.isAgg110
 z51 := Tryz.sizeOf110
 v51 := Tryz.zeroValue110
 t53 := Tryz.underlying113
 a53 := Tryz.isAgg113
 z53 := Tryz.sizeOf113
 v53 := Tryz.zeroValue113
 t171 := Tryz.underlying250
 a171 := Tryz.isAgg250
 z171 := Tryz.sizeOf250
 v171 := Tryz.zeroValue250
 t173 := Tryz.underlying252
 a173 := Tryz.isAgg252
 z173 := Tryz.sizeOf252
 v173 := Tryz.zeroValue252
 t212 := Tryz.underlying263
 a212 := Tryz.isAgg263
 z212 := Tryz.sizeOf263
 v212 := Tryz.zeroValue263
 t213 := Tryz.underlying264
 a213 := Tryz.isAgg264
 z213 := Tryz.sizeOf264
 t232 := Tryz.underlying275
 a232 := Tryz.isAgg275
 z232 := Tryz.sizeOf275
 v232 := Tryz.zeroValue275
 t233 := Tryz.underlying276
 a233 := Tryz.isAgg276
 z233 := Tryz.sizeOf276
 v233 := Tryz.zeroValue276
 g17 := by kernel_rfl
 g18 := by kernel_rfl
 g19 := by kernel_rfl
 i0 := by kernel_rfl
 i2 := by kernel_rfl
 i3 := by kernel_rfl
 i4 := by kernel_rfl
 i5 := by kernel_rfl
 i9 := by kernel_rfl
 i20 := by kernel_rfl
 i37 := by kernel_rfl
 i46 := by kernel_rfl
 i51 := by kernel_rfl
 i53 := by kernel_rfl
 i171 := by kernel_rfl
 i173 := by kernel_rfl
 i212 := by kernel_rfl
 i232 := by kernel_rfl
 i233 := by kernel_rfl
 m17 := by kernel_rfl
 m18 := by kernel_rfl
 m19 := by kernel_rfl }
open Go.RowKit Go.Lib Go.Sort in
theorem Tryz.strconv_Itoa (n : Int) (h0 : -9223372036854775808 ≤ n) (h1 : n ≤ 9223372036854775807) (w : World) (htab : Lib.TabIs Tryz.prog w "internal/strconv.uint64pow10" .u64 Lib.pow10Tab) :
    Calls Tryz.prog 93 #[.int .i64 n] w fun e w' => e = .returned (.string ⟨(Lib.itoa n).toArray⟩) ∧ ∃ k os, w' = grow (w.drewN k) os := Any.strconv_Itoa Tryz.laysM171 n h0 h1 w htab
def Tryz.lays190_ren : Go.Shelf.Ren := ⟨fun | 190 => 109 | 125 => 132 | 258 => 131 | 128 => 159 | 129 => 160 | 302 => 150 | 303 => 151 | 304 => 152 | 305 => 153 | 306 => 154 | 307 => 155 | 308 => 156 | 309 => 157 | 310 => 158 | 333 => 172 | 329 => 173 | 330 => 174 | 334 => 175 | 335 => 176 | 336 => 177 | 344 => 185 | n => n, fun | 31 => 23 | 9 => 9 | 3 => 3 | 46 => 69 | 0 => 0 | 51 => 110 | 53 => 113 | 4 => 4 | 183 => 237 | 182 => 236 | 131 => 241 | 5 => 5 | 218 => 254 | 222 => 258 | 228 => 266 | 229 => 267 | n => n, fun | n => n⟩
theorem Tryz.lays190 : Go.Proofs.Lays.n190 Tryz.prog Tryz.lays190_ren := {
 mixed := by kernel_rfl
 f125 := Tryz.func132.trans (congrArg some (by kernel_rfl))
 f128 := Tryz.func159.trans (congrArg some (by kernel_rfl))
 f129 := Tryz.func160.trans (congrArg some (by kernel_rfl))
 f190 := Tryz.func109.trans (congrArg some (by kernel_rfl))
 f258 := Tryz.func131.trans (congrArg some (by kernel_rfl))
 f302 := Tryz.func150.trans (congrArg some (by kernel_rfl))
 f303 := Tryz.func151.trans (congrArg some (by kernel_rfl))
 f304 := Tryz.func152.trans (congrArg some (by kernel_rfl))
 f305 := Tryz.func153.trans (congrArg some (by kernel_rfl))
 f306 := Tryz.func154.trans (congrArg some (by kernel_rfl))
 f307 := Tryz.func155.trans (congrArg some (by kernel_rfl))
 f308 := Tryz.func156.trans (congrArg some (by kernel_rfl))
 f309 := Tryz.func157.trans (congrArg some (by kernel_rfl))
 f310 := Tryz.func158.trans (congrArg some (by kernel_rfl))
 f329 := Tryz.func173.trans (congrArg some (by kernel_rfl))
 f330 := Tryz.func174.trans (congrArg some (by kernel_rfl))
 f333 := Tryz.func172.trans (congrArg some (by kernel_rfl))
 f334 := Tryz.func175.trans (congrArg some (by kernel_rfl))
 f335 := Tryz.func176.trans (congrArg some (by kernel_rfl))
 f336 := Tryz.func177.trans (congrArg some (by kernel_rfl))
 f344 := Tryz.func185.trans (congrArg some (by kernel_rfl))
 t0 := Tryz.underlying0
 a0 := Tryz.isAgg0
 z0 := Tryz.sizeOf0
 v0 := Tryz.zeroValue0
 t3 := Tryz.underlying3
 a3 := Tryz.isAgg3
 z3 := Tryz.sizeOf3
 v3 := Tryz.zeroValue3
 t4 := Tryz.underlying4
 a4 := Tryz.isAgg4
 z4 := Tryz.sizeOf4
 v4 := Tryz.zeroValue4
 t5 := Tryz.underlying5
 a5 := Tryz.isAgg5
 z5 := Tryz.sizeOf5
 v5 := Tryz.zeroValue5
 t9 := Tryz.underlying9
 a9 := Tryz.isAgg9
 z9 := Tryz.sizeOf9
 v9 := Tryz.zeroValue9
 t31 := Tryz.underlying23
 a31 := Tryz.isAgg23
 z31 := Tryz.sizeOf23
 v31 := Tryz.zeroValue23
 t46 := Tryz.underlying69
 a46 := Tryz.isAgg69
 z46 := Tryz.sizeOf69
 v46 := Tryz.zeroValue69
 t51 := Tryz.underlying110
 a51 := Tryz.isAgg110
 z51 := Tryz.sizeOf110
 v51 := Tryz.zeroValue110
 t53 := Tryz.underlying113
 a53 := Tryz.isAgg113
 z53 := Tryz.sizeOf113
 v53 := Tryz.zeroValue113
 t131 := Tryz.underlying241
 a131 := Tryz.isAgg241
 z131 := Tryz.sizeOf241
 v131 := Tryz.zeroValue241
 t182 := Tryz.underlying236
 a182 := Tryz.isAgg236
 z182 := Tryz.sizeOf236
 v182 := Tryz.zeroValue236
 t183 := Tryz.underlying237
 a183 := Tryz.isAgg237
 z183 := Tryz.sizeOf237
 v183 := Tryz.zeroValue237
 t218 := Tryz.underlying254
 a218 := Tryz.isAgg254
 z218 := Tryz.sizeOf254
 v218 := Tryz.zeroValue254
 t222 := Tryz.underlying258
 a222 := Tryz.isAgg258
 z222 := Tryz.sizeOf258
 v222 := Tryz.zeroValue258
 t228 := Tryz.underlying266
 a228 := Tryz.isAgg266
 z228 := Tryz.sizeOf266
 v228 := Tryz.zeroValue266
 t229 := Tryz.underlying267
 a229 := Tryz.isAgg267
 z229 := Tryz.sizeOf267
 v229 := Tryz.zeroValue267 }
open Go.RowKit Go.Lib Go.Sort in
theorem Tryz.slices_Sort_string (blk off cap : Nat) (ss : List (List UInt8)) (w : World) (hH : Holds encStr w blk off ss.toArray) (hblk : blk < w.heap.size) (hsz : ss.length < 4611686018427387904) :
    Calls Tryz.prog 109 #[.slice (some ⟨blk, off, none⟩) ss.length cap] w fun e w' =>
     e = .returned (.tuple #[]) ∧ ∃ n os, w' = grow (putRow encStr (Sort.ahead w n) blk off (ss.mergeSort fun x y => decide (x ≤ y)).toArray) os := Any.slices_Sort_string Tryz.lays190 blk off cap ss w hH hblk hsz
def Tryz.lays149_ren : Go.Shelf.Ren := ⟨fun | 149 => 123 | 222 => 139 | n => n, fun | 9 => 9 | 5 => 5 | 3 => 3 | 4 => 4 | n => n, fun | n => n⟩
theorem Tryz.lays149 : Go.Proofs.Lays.n149 Tryz.prog Tryz.lays149_ren := {
 mixed := by kernel_rfl
 f149 := Tryz.func123.trans (congrArg some (by kernel_rfl))
 f222 := Tryz.func139.trans (congrArg some (by kernel_rfl))
 t3 := Tryz.underlying3
 a3 := Tryz.isAgg3
 z3 := Tryz.sizeOf3
 v3 := Tryz.zeroValue3
 t4 := Tryz.underlying4
 a4 := Tryz.isAgg4
 z4 := Tryz.sizeOf4
 v4 := Tryz.zeroValue4
 t5 := Tryz.underlying5
 a5 := Tryz.isAgg5
 z5 := Tryz.sizeOf5
 v5 := Tryz.zeroValue5
 t9 := Tryz.underlying9
 a9 := Tryz.isAgg9
 z9 := Tryz.sizeOf9
 v9 := Tryz.zeroValue9 }
open Go.RowKit Go.Lib Go.Sort in
theorem Tryz.strings_LastIndexByte (s : ByteArray) (c : Int) (hs : s.size < 4611686018427387904) (w : World) :
    Calls Tryz.prog 123 #[.string s, .int .u8 c] w fun e w' => e = .returned (.int .i64 (Lib.lastIndexByte s c)) ∧ w' = w := Any.strings_LastIndexByte Tryz.lays149 s c hs w
open Go.RowKit Go.Lib Go.Sort in
theorem Tryz.slices_Sort_string_none (p : Option Addr) (cap : Nat) (w : World) :
    Calls Tryz.prog 109 #[.slice p 0 cap] w fun e w' => e = .returned (.tuple #[]) ∧ w' = w := Any.slices_Sort_string_none Tryz.lays190 p cap w
def Tryz.lays160_ren : Go.Shelf.Ren := ⟨fun | 160 => 124 | 232 => 141 | 231 => 140 | 227 => 142 | 234 => 144 | 233 => 143 | 236 => 146 | 235 => 145 | 228 => 164 | 271 => 167 | 151 => 166 | 197 => 165 | 120 => 180 | 152 => 179 | 260 => 178 | 137 => 186 | 119 => 187 | 224 => 188 | 225 => 189 | 217 => 192 | 266 => 193 | n => n, fun | 9 => 9 | 4 => 4 | 3 => 3 | 5 => 5 | 117 => 228 | 116 => 227 | 0 => 0 | 124 => 231 | 21 => 21 | 105 => 247 | 46 => 69 | 119 => 269 | 139 => 272 | 138 => 271 | n => n, fun | 3 => 2 | 4 => 3 | n => n⟩
theorem Tryz.lays160 : Go.Proofs.Lays.n160 Tryz.prog Tryz.lays160_ren := {
 mixed := by kernel_rfl
 f119 := Tryz.func187.trans (congrArg some (by kernel_rfl))
 f120 := Tryz.func180.trans (congrArg some (by kernel_rfl))
 f137 := Tryz.func186.trans (congrArg some (by kernel_rfl))
 f151 := Tryz.func166.trans (congrArg some (by kernel_rfl))
 f152 := Tryz.func179.trans (congrArg some (by kernel_rfl))
 f160 := Tryz.func124.trans (congrArg some (by kernel_rfl))
 f197 := Tryz.func165.trans (congrArg some (by kernel_rfl))
 f217 := Tryz.func192.trans (congrArg some (by kernel_rfl))
 f224 := Tryz.func188.trans (congrArg some (by kernel_rfl))
 f225 := Tryz.func189.trans (congrArg some (by kernel_rfl))
 f227 := Tryz.func142.trans (congrArg some (by kernel_rfl))
 f228 := Tryz.func164.trans (congrArg some (by kernel_rfl))
 f231 := Tryz.func140.trans (congrArg some (by kernel_rfl))
 f232 := Tryz.func141.trans (congrArg some (by kernel_rfl))
 f233 := Tryz.func143.trans (congrArg some (by kernel_rfl))
 f234 := Tryz.func144.trans (congrArg some (by kernel_rfl))
 f235 := Tryz.func145.trans (congrArg some (by kernel_rfl))
 f236 := Tryz.func146.trans (congrArg some (by kernel_rfl))
 f260 := Tryz.func178.trans (congrArg some (by kernel_rfl))
 f266 := Tryz.func193.trans (congrArg some (by kernel_rfl))
 f271 := Tryz.func167.trans (congrArg some (by kernel_rfl))
 t0 := Tryz.underlying0
 a0 := Tryz.isAgg0
 z0 := Tryz.sizeOf0
 v0 := Tryz.zeroValue0
 t3 := Tryz.underlying3
 a3 := Tryz.isAgg3
 z3 := Tryz.sizeOf3
 v3 := Tryz.zeroValue3
 t4 := Tryz.underlying4
 a4 := Tryz.isAgg4
 z4 := Tryz.sizeOf4
 v4 := Tryz.zeroValue4
 t5 := Tryz.underlying5
 a5 := Tryz.isAgg5
 z5 := Tryz.sizeOf5
 v5 := Tryz.zeroValue5
 t9 := Tryz.underlying9
 a9 := Tryz.isAgg9
 z9 := Tryz.sizeOf9
 v9 := Tryz.zeroValue9
 t21 := Tryz.underlying21
 a21 := Tryz.isAgg21
 z21 := Tryz.sizeOf21
 v21 := Tryz.zeroValue21
 t46 := Tryz.underlying69
 a46 := Tryz.isAgg69
 z46 := Tryz.sizeOf69
 v46 := Tryz.zeroValue69
 t105 := Tryz.underlying247
 a105 := Tryz.isAgg247
 z105 := Tryz.sizeOf247
 v105 := Tryz.zeroValue247
 t116 := Tryz.underlying227
 a116 := Tryz.isAgg227
 z116 := Tryz.sizeOf227
 t117 := Tryz.underlying228
 a117 := Tryz.isAgg228
 z117 := Tryz.sizeOf228
 v117 := Tryz.zeroValue228
 t119 := Tryz.underlying269
 a119 := Tryz.isAgg269
 z119 := Tryz.sizeOf269
 t124 := Tryz.underlying231
 a124 := Tryz.isAgg231
 z124 := Tryz.sizeOf231
 v124 := Tryz.zeroValue231
 t138 := Tryz.underlying271
 a138 := Tryz.isAgg271
 z138 := Tryz.sizeOf271
 v138 := Tryz.zeroValue271
 t139 := Tryz.underlying272
 a139 := Tryz.isAgg272
 z139 := Tryz.sizeOf272
 v139 := Tryz.zeroValue272
 g3 := by kernel_rfl
 g4 := by kernel_rfl }
def Tryz.sorted69_ren : Go.Shelf.Ren := ⟨fun | 6 => 69 | 8 => 108 | 9 => 109 | 11 => 130 | 13 => 132 | 12 => 131 | 23 => 159 | 24 => 160 | 14 => 150 | 15 => 151 | 16 => 152 | 17 => 153 | 18 => 154 | 19 => 155 | 20 => 156 | 21 => 157 | 22 => 158 | 25 => 172 | 26 => 173 | 27 => 174 | 28 => 175 | 29 => 176 | 30 => 177 | 31 => 185 | n => n, fun | 26 => 9 | 28 => 157 | 24 => 23 | 0 => 0 | 3 => 3 | 37 => 69 | 48 => 110 | 50 => 113 | 4 => 4 | 40 => 237 | 39 => 236 | 45 => 241 | 5 => 5 | 9 => 9 | 51 => 254 | 55 => 258 | 57 => 266 | 58 => 267 | 33 => 200 | n => n, fun | n => n⟩
def Tryz.sort109_ren : Go.Shelf.Ren := ⟨fun | 6 => 109 | 8 => 132 | 9 => 131 | 19 => 159 | 20 => 160 | 21 => 150 | 22 => 151 | 23 => 152 | 24 => 153 | 25 => 154 | 26 => 155 | 27 => 156 | 28 => 157 | 29 => 158 | 36 => 172 | 31 => 173 | 32 => 174 | 37 => 175 | 38 => 176 | 39 => 177 | 41 => 185 | n => n, fun | 27 => 23 | 29 => 9 | 3 => 3 | 32 => 69 | 26 => 23 | 0 => 0 | 44 => 110 | 46 => 113 | 4 => 4 | 36 => 237 | 35 => 236 | 41 => 241 | 5 => 5 | 9 => 9 | 53 => 254 | 57 => 258 | 63 => 266 | 64 => 267 | n => n, fun | n => n⟩
theorem Tryz.sort109 : Go.Proofs.SlLaysM.n6 Tryz.prog Tryz.sort109_ren := {
 mixed := by kernel_rfl
 f6 := ⟨Tryz.f109.name, by decide, Tryz.func109.trans (congrArg some (by kernel_rfl))⟩
 f8 := Tryz.func132.trans (congrArg some (by kernel_rfl))
 f9 := ⟨Tryz.f131.name, by decide, Tryz.func131.trans (congrArg some (by kernel_rfl))⟩
 f19 := Tryz.func159.trans (congrArg some (by kernel_rfl))
 f20 := Tryz.func160.trans (congrArg some (by kernel_rfl))
 f21 := ⟨Tryz.f150.name, by decide, Tryz.func150.trans (congrArg some (by kernel_rfl))⟩
 f22 := ⟨Tryz.f151.name, by decide, Tryz.func151.trans (congrArg some (by kernel_rfl))⟩
 f23 := ⟨Tryz.f152.name, by decide, Tryz.func152.trans (congrArg some (by kernel_rfl))⟩
 f24 := ⟨Tryz.f153.name, by decide, Tryz.func153.trans (congrArg some (by kernel_rfl))⟩
 f25 := ⟨Tryz.f154.name, by decide, Tryz.func154.trans (congrArg some (by kernel_rfl))⟩
 f26 := ⟨Tryz.f155.name, by decide, Tryz.func155.trans (congrArg some (by kernel_rfl))⟩
 f27 := ⟨Tryz.f156.name, by decide, Tryz.func156.trans (congrArg some (by kernel_rfl))⟩
 f28 := ⟨Tryz.f157.name, by decide, Tryz.func157.trans (congrArg some (by kernel_rfl))⟩
 f29 := ⟨Tryz.f158.name, by decide, Tryz.func158.trans (congrArg some (by kernel_rfl))⟩
 f31 := Tryz.func173.trans (congrArg some (by kernel_rfl))
 f32 := Tryz.func174.trans (congrArg some (by kernel_rfl))
 f36 := ⟨Tryz.f172.name, by decide, Tryz.func172.trans (congrArg some (by kernel_rfl))⟩
 f37 := ⟨Tryz.f175.name, by decide, Tryz.func175.trans (congrArg some (by kernel_rfl))⟩
 f38 := ⟨Tryz.f176.name, by decide, Tryz.func176.trans (congrArg some (by kernel_rfl))⟩
 f39 := ⟨Tryz.f177.name, by decide, Tryz.func177.trans (congrArg some (by kernel_rfl))⟩
 f41 := ⟨Tryz.f185.name, by decide, Tryz.func185.trans (congrArg some (by kernel_rfl))⟩
 t0 := Tryz.underlying0
 a0 := Tryz.isAgg0
 z0 := Tryz.sizeOf0
 v0 := Tryz.zeroValue0
 t3 := Tryz.underlying3
 a3 := Tryz.isAgg3
 z3 := Tryz.sizeOf3
 v3 := Tryz.zeroValue3
 t4 := Tryz.underlying4
 a4 := Tryz.isAgg4
 z4 := Tryz.sizeOf4
 v4 := Tryz.zeroValue4
 t5 := Tryz.underlying5
 a5 := Tryz.isAgg5
 z5 := Tryz.sizeOf5
 v5 := Tryz.zeroValue5
 t9 := Tryz.underlying9
 a9 := Tryz.isAgg9
 z9 := Tryz.sizeOf9
 v9 := Tryz.zeroValue9
 t26 := Tryz.underlying23
 a26 := Tryz.isAgg23
 z26 := Tryz.sizeOf23
 v26 := Tryz.zeroValue23
 t27 := Tryz.underlying23
 a27 := Tryz.isAgg23
 z27 := Tryz.sizeOf23
 v27 := Tryz.zeroValue23
 t29 := Tryz.underlying9
 a29 := Tryz.isAgg9
 z29 := Tryz.sizeOf9
 v29 := Tryz.zeroValue9
 t32 := Tryz.underlying69
 a32 := Tryz.isAgg69
 z32 := Tryz.sizeOf69
 v32 := Tryz.zeroValue69
 t35 := Tryz.underlying236
 a35 := Tryz.isAgg236
 z35 := Tryz.sizeOf236
 v35 := Tryz.zeroValue236
 t36 := Tryz.underlying237
 a36 := Tryz.isAgg237
 z36 := Tryz.sizeOf237
 v36 := Tryz.zeroValue237
 t41 := Tryz.underlying241
 a41 := Tryz.isAgg241
 z41 := Tryz.sizeOf241
 v41 := Tryz.zeroValue241
 t44 := Tryz.underlying110
 a44 := Tryz.isAgg110
 z44 := Tryz.sizeOf110
 v44 := Tryz.zeroValue110
 t46 := Tryz.underlying113
 a46 := Tryz.isAgg113
 z46 := Tryz.sizeOf113
 v46 := Tryz.zeroValue113
 t53 := Tryz.underlying254
 a53 := Tryz.isAgg254
 z53 := Tryz.sizeOf254
 v53 := Tryz.zeroValue254
 t57 := Tryz.underlying258
 a57 := Tryz.isAgg258
 z57 := Tryz.sizeOf258
 v57 := Tryz.zeroValue258
 t63 := Tryz.underlying266
 a63 := Tryz.isAgg266
 z63 := Tryz.sizeOf266
 v63 := Tryz.zeroValue266
 t64 := Tryz.underlying267
 a64 := Tryz.isAgg267
 z64 := Tryz.sizeOf267
 v64 := Tryz.zeroValue267 }
end Go.Proofs
