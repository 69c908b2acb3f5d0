/-
 EV: the package rename: each of types, expressions, right sides, arms, made anew (printed by gen_rw6.py).
-/
import Derived.Test.YteajcnilihgheaaGreatDoorRw5M
namespace Go.Proofs.YteajcnilihgheaaGreatDoor
set_option maxRecDepth 100000
set_option maxHeartbeats 8000000
set_option linter.unusedSimpArgs false
set_option linter.unusedVariables false
section
open Go.RowKit
variable {S : Sp} {N : Nat}
theorem eachY_j (hc : S.code = codeP Tryz.prog) (hm : S.ms 56 = []) (q : RQ) (u : List ByteArray) (st : ByteArray → List ByteArray) (l : Bnd) (a : List Ty) (tk : Tok) (σ : Sto) (h : St q u st σ) (hl : Top l st) (hu : u.length + (bYs a).length ≤ 1000000000) (hb : ∀ s ∈ bYs a, s.size ≤ 1000000000) (hlen : a.length ≤ 1000000000)
    (h1 : ∀ x ∈ a, OneJ S N 57 Ty.cs (renY NFp) bY x) :
    JC Tryz.prog (S.E N) 56 [.sl (tyR a) tk, .fn (.func 57) [.ptr q.rid 0] []] σ fun r σ' => r = .ret (.sl (tyR (renYs NFp l u a).1) .no) ∧ St q (renYs NFp l u a).2 st σ' ∧ Fr q nV σ σ' := by
 rw [renYs_f]
 rw [bYs_f] at hu hb
 have hbl : ∀ u x, (renY NFp l u x).2.length = u.length + (bY x).length := fun u x => (anew_Y l u x).len
 refine J.callNrm (R := fun r σ' => (∃ tok, r = .ret (.sl (tyR (foldR (renY NFp l) u a).1) tok)) ∧ St q (foldR (renY NFp l) u a).2 st σ' ∧ Fr q nV σ σ') ?_ (fun v σ' h => ?_) (fun v σ' h => by obtain ⟨⟨tok, e⟩, _⟩ := h; cases e)
 rotate_left
 · obtain ⟨⟨tok, e⟩, h2⟩ := h
   cases e
   exact ⟨by simp only [AV.nrm, tyR_nrm], h2⟩
 simp only [nrmR, AV.nrm, tyR_nrm]
 refine JC.startG (fn := Tryz.f56) (codeOf hc Tryz.func56 rfl (by kernel_rfl)) rfl hm rfl (zL rfl) fun tm => ?_
 refine JD.hide fun R0 hR0 => ?_
 refine JD.seqK fun K hK => J.cw (CW.region ?_)
 simp (maxDischargeDepth := 16) [zY]
 refine hK _ _ ?_; clear hK K
 refine JD.seqK fun K hK => J.cw (CW.region ?_)
 simp (maxDischargeDepth := 16) [zY]
 refine hK _ _ ?_; clear hK K
 refine JD.seqK fun K hK => ?_
 refine JD.seqK fun K hK => J.cw (CW.region ?_)
 simp (maxDischargeDepth := 16) [zY]
 refine hK _ _ ?_; clear hK K
 refine JD.block (JD.hide fun R hR => ?_)
 refine JD.loopF (fun p : Nat × Tok × Sto => [(1, .fn (.func 57) [.ptr q.rid 0] []), (5, .sl (tyR (foldR (renY NFp l) u (a.take p.1)).1) p.2.1), (8, .sl (tyR a) .no), (9, intV a.length), (10, intV p.1)]) (fun p => p.2.2) (fun p => p.1 ≤ a.length ∧ St q (foldR (renY NFp l) u (a.take p.1)).2 st p.2.2 ∧ Fr q nV σ p.2.2 ∧ Grow q σ p.2.2 (p.1 * 9) 34 p.2.1) (fun p => a.length - p.1) (0, .full, σ) (by simp [sub, lk, foldR, tyR]) rfl ⟨by simp, by simpa [foldR] using h, .refl _ _ _, by simpa using Grow.nil q σ σ _⟩ ?_
 rintro ⟨i, tok, σ1⟩ tm ⟨hi, hS, hF, hG⟩ R2 hR2 hR2x
 dsimp only at hi hS hF hG hR2 ⊢
 refine JD.seqK fun K4 hK4 => J.cw (CW.region ?_)
 rcases Nat.lt_or_ge i a.length with hlt | hge
 · have ha := tyR_get hlt
   have hft := foldR_take (renY NFp l) u hlt
   have hfl : (foldR (renY NFp l) u (a.take i)).1.length = i := by rw [foldR_len]; exact List.length_take_of_le hi
   obtain ⟨hle, hmem⟩ := foldR_le hbl u hlt
   have hone := h1 _ (List.getElem_mem hlt)
   simp (maxDischargeDepth := 16) [zY, hlt]
   refine hK4 _ _ ?_
   refine JD.seqK fun K3 hK3 => ?_
   refine JD.cond (t := true) (by simp [zT, zF, lk]) ?_
   refine JD.skip (hK3 _ _ ?_)
   refine JD.seqK fun K5 hK5 => JD.block ?_
   refine JD.seqK fun K hK => J.cw (CW.region ?_)
   simp (maxDischargeDepth := 16) [zY, ha, Ty.len, Ty.tk, Ty.put, set_last]
   refine hK _ _ ?_; clear hK K
   generalize a[i] = x at *
   generalize hui : (foldR (renY NFp l) u (a.take i)).2 = ui at *
   generalize hoi : (foldR (renY NFp l) u (a.take i)).1 = oi at *
   refine JD.region ?_
   have hlx := x.len
   have hg1 : (σ1 ++ [AObj.cells x.cs 34])[σ1.length]? = some (.cells x.cs 34) := by simp
   have hS1 := hS.app [AObj.cells x.cs 34]
   have hF1 := hS.frA nV [AObj.cells x.cs 34]
   have hl0 := hF.len
   have hl1 := hF1.len
   generalize hσ1 : σ1 ++ [AObj.cells x.cs 34] = σ2 at *
   simp (maxDischargeDepth := 16) [zY, symL, hg1, Ty.len, Ty.tk]
   refine (hone q ui st l σ2 hS1 hl (by omega) (fun s hs => hb s (hmem s hs))).mono ?_
   rintro r σ3 ⟨rfl, hS3, hF3⟩
   have hG3 := (hG.keep hF1 fun p h => h.elim).keep hF3 fun p h => h.elim
   obtain ⟨tok', σ4, acc, t1, t2, t3, t4, hap⟩ := app_own (P := Tryz.prog) (M := []) (σ := σ3) (t := 32) (e := 34) (k := 8) (by_ := 152) (es := tyR oi) (fs := [(renY NFp l ui x).1.cs]) (by kernel_rfl) (by kernel_rfl) (by kernel_rfl) (by kernel_rfl) (by rw [tyR_len, hfl]; exact hG3.t) (tyR_hd _) (by simp [Ty.len]) (by simp only [tyR_len, hfl, List.length_singleton]; omega) (by simp only [tyR_len, hfl, List.length_singleton]; omega)
   have hl3 := hF3.len
   obtain ⟨g1, g2, g3⟩ := hG3.next hS3 (by omega) t1 t2 t3 t4
   rw [tyR_len, hfl, List.length_singleton] at g1
   generalize hy : (renY NFp l ui x).1 = y at *
   have hrow : tyR oi ++ stripRows [y.cs] = tyR (oi ++ [y]) := by rw [tyR_app]; simp [stripRows, Ty.stp, tyR]
   rw [hrow] at hap
   simp (maxDischargeDepth := 16) [zY, symL, Ty.len, Ty.tk, Ty.put, hap]
   refine hK5 _ _ ?_
   refine J.cw (CW.region ?_)
   simp (maxDischargeDepth := 16) [zY, wrap_succ (show i ≤ 1000000000000 by omega)]
   refine hR2 _ _ ⟨(i + 1, tok', σ4), _, _, rfl, ?_, rfl, ⟨hlt, ?_, ?_, by simpa using g1⟩, show a.length - (i + 1) < a.length - i by omega⟩
   · simp only [hft]
     simp [sub, lk]
   · show St q (foldR (renY NFp l) u (a.take (i + 1))).2 st σ4
     rw [hft]; exact g2
   · refine ((hF.trans0 hF1).trans0 hF3).trans g3 fun p hp => .inr (hG.o p hp).2
 · simp (maxDischargeDepth := 16) [zY, Nat.not_lt.2 hge]
   refine hK4 _ _ ?_
   refine JD.seqK fun K3 hK3 => ?_
   refine JD.cond (t := false) (by simp [zT, zF, lk]) ?_
   refine JD.exit (hR2x _ _ _ (by simp) (hR _ _ _ ?_))
   simp only [outOf, if_true]
   refine hK _ _ ?_
   rw [List.take_of_length_le hge] at hS ⊢
   refine JD.seqK fun K hK => J.cw (CW.region ?_)
   simp (maxDischargeDepth := 16) [zY]
   refine hK _ _ ?_; clear hK K
   refine JD.ret (hR0 _ _ _ ⟨.sl (tyR (foldR (renY NFp l) u a).1) tok, by simp [zA, omap, zB, zF, lk], ⟨tok, rfl⟩, hS, hF⟩)
theorem eachE_j (hc : S.code = codeP Tryz.prog) (hm : S.ms 65 = []) (q : RQ) (u : List ByteArray) (st : ByteArray → List ByteArray) (l : Bnd) (a : List Exp) (tk : Tok) (σ : Sto) (h : St q u st σ) (hl : Top l st) (hu : u.length + (bEs a).length ≤ 1000000000) (hb : ∀ s ∈ bEs a, s.size ≤ 1000000000) (hlen : a.length ≤ 1000000000)
    (h1 : ∀ x ∈ a, OneJ S N 33 Exp.cs (renE NFp) bE x) :
    JC Tryz.prog (S.E N) 65 [.sl (expR a) tk, .fn (.func 33) [.ptr q.rid 0] []] σ fun r σ' => r = .ret (.sl (expR (renEs NFp l u a).1) .no) ∧ St q (renEs NFp l u a).2 st σ' ∧ Fr q nV σ σ' := by
 rw [renEs_f]
 rw [bEs_f] at hu hb
 have hbl : ∀ u x, (renE NFp l u x).2.length = u.length + (bE x).length := fun u x => (anew_E l u x).len
 refine J.callNrm (R := fun r σ' => (∃ tok, r = .ret (.sl (expR (foldR (renE NFp l) u a).1) tok)) ∧ St q (foldR (renE NFp l) u a).2 st σ' ∧ Fr q nV σ σ') ?_ (fun v σ' h => ?_) (fun v σ' h => by obtain ⟨⟨tok, e⟩, _⟩ := h; cases e)
 rotate_left
 · obtain ⟨⟨tok, e⟩, h2⟩ := h
   cases e
   exact ⟨by simp only [AV.nrm, expR_nrm], h2⟩
 simp only [nrmR, AV.nrm, expR_nrm]
 refine JC.startG (fn := Tryz.f65) (codeOf hc Tryz.func65 rfl (by kernel_rfl)) rfl hm rfl (zL rfl) fun tm => ?_
 refine JD.hide fun R0 hR0 => ?_
 refine JD.seqK fun K hK => J.cw (CW.region ?_)
 simp (maxDischargeDepth := 16) [zY]
 refine hK _ _ ?_; clear hK K
 refine JD.seqK fun K hK => J.cw (CW.region ?_)
 simp (maxDischargeDepth := 16) [zY]
 refine hK _ _ ?_; clear hK K
 refine JD.seqK fun K hK => ?_
 refine JD.seqK fun K hK => J.cw (CW.region ?_)
 simp (maxDischargeDepth := 16) [zY]
 refine hK _ _ ?_; clear hK K
 refine JD.block (JD.hide fun R hR => ?_)
 refine JD.loopF (fun p : Nat × Tok × Sto => [(1, .fn (.func 33) [.ptr q.rid 0] []), (5, .sl (expR (foldR (renE NFp l) u (a.take p.1)).1) p.2.1), (8, .sl (expR a) .no), (9, intV a.length), (10, intV p.1)]) (fun p => p.2.2) (fun p => p.1 ≤ a.length ∧ St q (foldR (renE NFp l) u (a.take p.1)).2 st p.2.2 ∧ Fr q nV σ p.2.2 ∧ Grow q σ p.2.2 (p.1 * 11) 49 p.2.1) (fun p => a.length - p.1) (0, .full, σ) (by simp [sub, lk, foldR, expR]) rfl ⟨by simp, by simpa [foldR] using h, .refl _ _ _, by simpa using Grow.nil q σ σ _⟩ ?_
 rintro ⟨i, tok, σ1⟩ tm ⟨hi, hS, hF, hG⟩ R2 hR2 hR2x
 dsimp only at hi hS hF hG hR2 ⊢
 refine JD.seqK fun K4 hK4 => J.cw (CW.region ?_)
 rcases Nat.lt_or_ge i a.length with hlt | hge
 · have ha := expR_get hlt
   have hft := foldR_take (renE NFp l) u hlt
   have hfl : (foldR (renE NFp l) u (a.take i)).1.length = i := by rw [foldR_len]; exact List.length_take_of_le hi
   obtain ⟨hle, hmem⟩ := foldR_le hbl u hlt
   have hone := h1 _ (List.getElem_mem hlt)
   simp (maxDischargeDepth := 16) [zY, hlt]
   refine hK4 _ _ ?_
   refine JD.seqK fun K3 hK3 => ?_
   refine JD.cond (t := true) (by simp [zT, zF, lk]) ?_
   refine JD.skip (hK3 _ _ ?_)
   refine JD.seqK fun K5 hK5 => JD.block ?_
   refine JD.seqK fun K hK => J.cw (CW.region ?_)
   simp (maxDischargeDepth := 16) [zY, ha, Exp.len, Exp.tk, Exp.put, set_last]
   refine hK _ _ ?_; clear hK K
   generalize a[i] = x at *
   generalize hui : (foldR (renE NFp l) u (a.take i)).2 = ui at *
   generalize hoi : (foldR (renE NFp l) u (a.take i)).1 = oi at *
   refine JD.region ?_
   have hlx := x.len
   have hg1 : (σ1 ++ [AObj.cells x.cs 49])[σ1.length]? = some (.cells x.cs 49) := by simp
   have hS1 := hS.app [AObj.cells x.cs 49]
   have hF1 := hS.frA nV [AObj.cells x.cs 49]
   have hl0 := hF.len
   have hl1 := hF1.len
   generalize hσ1 : σ1 ++ [AObj.cells x.cs 49] = σ2 at *
   simp (maxDischargeDepth := 16) [zY, symL, hg1, Exp.len, Exp.tk]
   refine (hone q ui st l σ2 hS1 hl (by omega) (fun s hs => hb s (hmem s hs))).mono ?_
   rintro r σ3 ⟨rfl, hS3, hF3⟩
   have hG3 := (hG.keep hF1 fun p h => h.elim).keep hF3 fun p h => h.elim
   obtain ⟨tok', σ4, acc, t1, t2, t3, t4, hap⟩ := app_own (P := Tryz.prog) (M := []) (σ := σ3) (t := 47) (e := 49) (k := 10) (by_ := 184) (es := expR oi) (fs := [(renE NFp l ui x).1.cs]) (by kernel_rfl) (by kernel_rfl) (by kernel_rfl) (by kernel_rfl) (by rw [expR_len, hfl]; exact hG3.t) (expR_hd _) (by simp [Exp.len]) (by simp only [expR_len, hfl, List.length_singleton]; omega) (by simp only [expR_len, hfl, List.length_singleton]; omega)
   have hl3 := hF3.len
   obtain ⟨g1, g2, g3⟩ := hG3.next hS3 (by omega) t1 t2 t3 t4
   rw [expR_len, hfl, List.length_singleton] at g1
   generalize hy : (renE NFp l ui x).1 = y at *
   have hrow : expR oi ++ stripRows [y.cs] = expR (oi ++ [y]) := by rw [expR_app]; simp [stripRows, Exp.stp, expR]
   rw [hrow] at hap
   simp (maxDischargeDepth := 16) [zY, symL, Exp.len, Exp.tk, Exp.put, hap]
   refine hK5 _ _ ?_
   refine J.cw (CW.region ?_)
   simp (maxDischargeDepth := 16) [zY, wrap_succ (show i ≤ 1000000000000 by omega)]
   refine hR2 _ _ ⟨(i + 1, tok', σ4), _, _, rfl, ?_, rfl, ⟨hlt, ?_, ?_, by simpa using g1⟩, show a.length - (i + 1) < a.length - i by omega⟩
   · simp only [hft]
     simp [sub, lk]
   · show St q (foldR (renE NFp l) u (a.take (i + 1))).2 st σ4
     rw [hft]; exact g2
   · refine ((hF.trans0 hF1).trans0 hF3).trans g3 fun p hp => .inr (hG.o p hp).2
 · simp (maxDischargeDepth := 16) [zY, Nat.not_lt.2 hge]
   refine hK4 _ _ ?_
   refine JD.seqK fun K3 hK3 => ?_
   refine JD.cond (t := false) (by simp [zT, zF, lk]) ?_
   refine JD.exit (hR2x _ _ _ (by simp) (hR _ _ _ ?_))
   simp only [outOf, if_true]
   refine hK _ _ ?_
   rw [List.take_of_length_le hge] at hS ⊢
   refine JD.seqK fun K hK => J.cw (CW.region ?_)
   simp (maxDischargeDepth := 16) [zY]
   refine hK _ _ ?_; clear hK K
   refine JD.ret (hR0 _ _ _ ⟨.sl (expR (foldR (renE NFp l) u a).1) tok, by simp [zA, omap, zB, zF, lk], ⟨tok, rfl⟩, hS, hF⟩)
theorem eachR_j (hc : S.code = codeP Tryz.prog) (hm : S.ms 62 = []) (q : RQ) (u : List ByteArray) (st : ByteArray → List ByteArray) (l : Bnd) (a : List Rhs) (tk : Tok) (σ : Sto) (h : St q u st σ) (hl : Top l st) (hu : u.length + (bRs a).length ≤ 1000000000) (hb : ∀ s ∈ bRs a, s.size ≤ 1000000000) (hlen : a.length ≤ 1000000000)
    (h1 : ∀ x ∈ a, OneJ S N 63 Rhs.cs (renR NFp) bR x) :
    JC Tryz.prog (S.E N) 62 [.sl (rhsR a) tk, .fn (.func 63) [.ptr q.rid 0] []] σ fun r σ' => r = .ret (.sl (rhsR (renRs NFp l u a).1) .no) ∧ St q (renRs NFp l u a).2 st σ' ∧ Fr q nV σ σ' := by
 rw [renRs_f]
 rw [bRs_f] at hu hb
 have hbl : ∀ u x, (renR NFp l u x).2.length = u.length + (bR x).length := fun u x => (anew_R l u x).len
 refine J.callNrm (R := fun r σ' => (∃ tok, r = .ret (.sl (rhsR (foldR (renR NFp l) u a).1) tok)) ∧ St q (foldR (renR NFp l) u a).2 st σ' ∧ Fr q nV σ σ') ?_ (fun v σ' h => ?_) (fun v σ' h => by obtain ⟨⟨tok, e⟩, _⟩ := h; cases e)
 rotate_left
 · obtain ⟨⟨tok, e⟩, h2⟩ := h
   cases e
   exact ⟨by simp only [AV.nrm, rhsR_nrm], h2⟩
 simp only [nrmR, AV.nrm, rhsR_nrm]
 refine JC.startG (fn := Tryz.f62) (codeOf hc Tryz.func62 rfl (by kernel_rfl)) rfl hm rfl (zL rfl) fun tm => ?_
 refine JD.hide fun R0 hR0 => ?_
 refine JD.seqK fun K hK => J.cw (CW.region ?_)
 simp (maxDischargeDepth := 16) [zY]
 refine hK _ _ ?_; clear hK K
 refine JD.seqK fun K hK => J.cw (CW.region ?_)
 simp (maxDischargeDepth := 16) [zY]
 refine hK _ _ ?_; clear hK K
 refine JD.seqK fun K hK => ?_
 refine JD.seqK fun K hK => J.cw (CW.region ?_)
 simp (maxDischargeDepth := 16) [zY]
 refine hK _ _ ?_; clear hK K
 refine JD.block (JD.hide fun R hR => ?_)
 refine JD.loopF (fun p : Nat × Tok × Sto => [(1, .fn (.func 63) [.ptr q.rid 0] []), (5, .sl (rhsR (foldR (renR NFp l) u (a.take p.1)).1) p.2.1), (8, .sl (rhsR a) .no), (9, intV a.length), (10, intV p.1)]) (fun p => p.2.2) (fun p => p.1 ≤ a.length ∧ St q (foldR (renR NFp l) u (a.take p.1)).2 st p.2.2 ∧ Fr q nV σ p.2.2 ∧ Grow q σ p.2.2 (p.1 * 7) 52 p.2.1) (fun p => a.length - p.1) (0, .full, σ) (by simp [sub, lk, foldR, rhsR]) rfl ⟨by simp, by simpa [foldR] using h, .refl _ _ _, by simpa using Grow.nil q σ σ _⟩ ?_
 rintro ⟨i, tok, σ1⟩ tm ⟨hi, hS, hF, hG⟩ R2 hR2 hR2x
 dsimp only at hi hS hF hG hR2 ⊢
 refine JD.seqK fun K4 hK4 => J.cw (CW.region ?_)
 rcases Nat.lt_or_ge i a.length with hlt | hge
 · have ha := rhsR_get hlt
   have hft := foldR_take (renR NFp l) u hlt
   have hfl : (foldR (renR NFp l) u (a.take i)).1.length = i := by rw [foldR_len]; exact List.length_take_of_le hi
   obtain ⟨hle, hmem⟩ := foldR_le hbl u hlt
   have hone := h1 _ (List.getElem_mem hlt)
   simp (maxDischargeDepth := 16) [zY, hlt]
   refine hK4 _ _ ?_
   refine JD.seqK fun K3 hK3 => ?_
   refine JD.cond (t := true) (by simp [zT, zF, lk]) ?_
   refine JD.skip (hK3 _ _ ?_)
   refine JD.seqK fun K5 hK5 => JD.block ?_
   refine JD.seqK fun K hK => J.cw (CW.region ?_)
   simp (maxDischargeDepth := 16) [zY, ha, Rhs.len, Rhs.tk, Rhs.put, set_last]
   refine hK _ _ ?_; clear hK K
   generalize a[i] = x at *
   generalize hui : (foldR (renR NFp l) u (a.take i)).2 = ui at *
   generalize hoi : (foldR (renR NFp l) u (a.take i)).1 = oi at *
   refine JD.region ?_
   have hlx := x.len
   have hg1 : (σ1 ++ [AObj.cells x.cs 52])[σ1.length]? = some (.cells x.cs 52) := by simp
   have hS1 := hS.app [AObj.cells x.cs 52]
   have hF1 := hS.frA nV [AObj.cells x.cs 52]
   have hl0 := hF.len
   have hl1 := hF1.len
   generalize hσ1 : σ1 ++ [AObj.cells x.cs 52] = σ2 at *
   simp (maxDischargeDepth := 16) [zY, symL, hg1, Rhs.len, Rhs.tk]
   refine (hone q ui st l σ2 hS1 hl (by omega) (fun s hs => hb s (hmem s hs))).mono ?_
   rintro r σ3 ⟨rfl, hS3, hF3⟩
   have hG3 := (hG.keep hF1 fun p h => h.elim).keep hF3 fun p h => h.elim
   obtain ⟨tok', σ4, acc, t1, t2, t3, t4, hap⟩ := app_own (P := Tryz.prog) (M := []) (σ := σ3) (t := 45) (e := 52) (k := 6) (by_ := 144) (es := rhsR oi) (fs := [(renR NFp l ui x).1.cs]) (by kernel_rfl) (by kernel_rfl) (by kernel_rfl) (by kernel_rfl) (by rw [rhsR_len, hfl]; exact hG3.t) (rhsR_hd _) (by simp [Rhs.len]) (by simp only [rhsR_len, hfl, List.length_singleton]; omega) (by simp only [rhsR_len, hfl, List.length_singleton]; omega)
   have hl3 := hF3.len
   obtain ⟨g1, g2, g3⟩ := hG3.next hS3 (by omega) t1 t2 t3 t4
   rw [rhsR_len, hfl, List.length_singleton] at g1
   generalize hy : (renR NFp l ui x).1 = y at *
   have hrow : rhsR oi ++ stripRows [y.cs] = rhsR (oi ++ [y]) := by rw [rhsR_app]; simp [stripRows, Rhs.stp, rhsR]
   rw [hrow] at hap
   simp (maxDischargeDepth := 16) [zY, symL, Rhs.len, Rhs.tk, Rhs.put, hap]
   refine hK5 _ _ ?_
   refine J.cw (CW.region ?_)
   simp (maxDischargeDepth := 16) [zY, wrap_succ (show i ≤ 1000000000000 by omega)]
   refine hR2 _ _ ⟨(i + 1, tok', σ4), _, _, rfl, ?_, rfl, ⟨hlt, ?_, ?_, by simpa using g1⟩, show a.length - (i + 1) < a.length - i by omega⟩
   · simp only [hft]
     simp [sub, lk]
   · show St q (foldR (renR NFp l) u (a.take (i + 1))).2 st σ4
     rw [hft]; exact g2
   · refine ((hF.trans0 hF1).trans0 hF3).trans g3 fun p hp => .inr (hG.o p hp).2
 · simp (maxDischargeDepth := 16) [zY, Nat.not_lt.2 hge]
   refine hK4 _ _ ?_
   refine JD.seqK fun K3 hK3 => ?_
   refine JD.cond (t := false) (by simp [zT, zF, lk]) ?_
   refine JD.exit (hR2x _ _ _ (by simp) (hR _ _ _ ?_))
   simp only [outOf, if_true]
   refine hK _ _ ?_
   rw [List.take_of_length_le hge] at hS ⊢
   refine JD.seqK fun K hK => J.cw (CW.region ?_)
   simp (maxDischargeDepth := 16) [zY]
   refine hK _ _ ?_; clear hK K
   refine JD.ret (hR0 _ _ _ ⟨.sl (rhsR (foldR (renR NFp l) u a).1) tok, by simp [zA, omap, zB, zF, lk], ⟨tok, rfl⟩, hS, hF⟩)
theorem eachM_j (hc : S.code = codeP Tryz.prog) (hm : S.ms 66 = []) (q : RQ) (u : List ByteArray) (st : ByteArray → List ByteArray) (l : Bnd) (a : List Arm) (tk : Tok) (σ : Sto) (h : St q u st σ) (hl : Top l st) (hu : u.length + (bMs a).length ≤ 1000000000) (hb : ∀ s ∈ bMs a, s.size ≤ 1000000000) (hlen : a.length ≤ 1000000000)
    (h1 : ∀ x ∈ a, OneJ S N 67 Arm.cs (renM NFp) bM x) :
    JC Tryz.prog (S.E N) 66 [.sl (armR a) tk, .fn (.func 67) [.ptr q.rid 0] []] σ fun r σ' => r = .ret (.sl (armR (renMs NFp l u a).1) .no) ∧ St q (renMs NFp l u a).2 st σ' ∧ Fr q nV σ σ' := by
 rw [renMs_f]
 rw [bMs_f] at hu hb
 have hbl : ∀ u x, (renM NFp l u x).2.length = u.length + (bM x).length := fun u x => (anew_M l u x).len
 refine J.callNrm (R := fun r σ' => (∃ tok, r = .ret (.sl (armR (foldR (renM NFp l) u a).1) tok)) ∧ St q (foldR (renM NFp l) u a).2 st σ' ∧ Fr q nV σ σ') ?_ (fun v σ' h => ?_) (fun v σ' h => by obtain ⟨⟨tok, e⟩, _⟩ := h; cases e)
 rotate_left
 · obtain ⟨⟨tok, e⟩, h2⟩ := h
   cases e
   exact ⟨by simp only [AV.nrm, armR_nrm], h2⟩
 simp only [nrmR, AV.nrm, armR_nrm]
 refine JC.startG (fn := Tryz.f66) (codeOf hc Tryz.func66 rfl (by kernel_rfl)) rfl hm rfl (zL rfl) fun tm => ?_
 refine JD.hide fun R0 hR0 => ?_
 refine JD.seqK fun K hK => J.cw (CW.region ?_)
 simp (maxDischargeDepth := 16) [zY]
 refine hK _ _ ?_; clear hK K
 refine JD.seqK fun K hK => J.cw (CW.region ?_)
 simp (maxDischargeDepth := 16) [zY]
 refine hK _ _ ?_; clear hK K
 refine JD.seqK fun K hK => ?_
 refine JD.seqK fun K hK => J.cw (CW.region ?_)
 simp (maxDischargeDepth := 16) [zY]
 refine hK _ _ ?_; clear hK K
 refine JD.block (JD.hide fun R hR => ?_)
 refine JD.loopF (fun p : Nat × Tok × Sto => [(1, .fn (.func 67) [.ptr q.rid 0] []), (5, .sl (armR (foldR (renM NFp l) u (a.take p.1)).1) p.2.1), (8, .sl (armR a) .no), (9, intV a.length), (10, intV p.1)]) (fun p => p.2.2) (fun p => p.1 ≤ a.length ∧ St q (foldR (renM NFp l) u (a.take p.1)).2 st p.2.2 ∧ Fr q nV σ p.2.2 ∧ Grow q σ p.2.2 (p.1 * 3) 56 p.2.1) (fun p => a.length - p.1) (0, .full, σ) (by simp [sub, lk, foldR, armR]) rfl ⟨by simp, by simpa [foldR] using h, .refl _ _ _, by simpa using Grow.nil q σ σ _⟩ ?_
 rintro ⟨i, tok, σ1⟩ tm ⟨hi, hS, hF, hG⟩ R2 hR2 hR2x
 dsimp only at hi hS hF hG hR2 ⊢
 refine JD.seqK fun K4 hK4 => J.cw (CW.region ?_)
 rcases Nat.lt_or_ge i a.length with hlt | hge
 · have ha := armR_get hlt
   have hft := foldR_take (renM NFp l) u hlt
   have hfl : (foldR (renM NFp l) u (a.take i)).1.length = i := by rw [foldR_len]; exact List.length_take_of_le hi
   obtain ⟨hle, hmem⟩ := foldR_le hbl u hlt
   have hone := h1 _ (List.getElem_mem hlt)
   simp (maxDischargeDepth := 16) [zY, hlt]
   refine hK4 _ _ ?_
   refine JD.seqK fun K3 hK3 => ?_
   refine JD.cond (t := true) (by simp [zT, zF, lk]) ?_
   refine JD.skip (hK3 _ _ ?_)
   refine JD.seqK fun K5 hK5 => JD.block ?_
   refine JD.seqK fun K hK => J.cw (CW.region ?_)
   simp (maxDischargeDepth := 16) [zY, ha, Arm.len, Arm.tk, Arm.put, set_last]
   refine hK _ _ ?_; clear hK K
   generalize a[i] = x at *
   generalize hui : (foldR (renM NFp l) u (a.take i)).2 = ui at *
   generalize hoi : (foldR (renM NFp l) u (a.take i)).1 = oi at *
   refine JD.region ?_
   have hlx := x.len
   have hg1 : (σ1 ++ [AObj.cells x.cs 56])[σ1.length]? = some (.cells x.cs 56) := by simp
   have hS1 := hS.app [AObj.cells x.cs 56]
   have hF1 := hS.frA nV [AObj.cells x.cs 56]
   have hl0 := hF.len
   have hl1 := hF1.len
   generalize hσ1 : σ1 ++ [AObj.cells x.cs 56] = σ2 at *
   simp (maxDischargeDepth := 16) [zY, symL, hg1, Arm.len, Arm.tk]
   refine (hone q ui st l σ2 hS1 hl (by omega) (fun s hs => hb s (hmem s hs))).mono ?_
   rintro r σ3 ⟨rfl, hS3, hF3⟩
   have hG3 := (hG.keep hF1 fun p h => h.elim).keep hF3 fun p h => h.elim
   obtain ⟨tok', σ4, acc, t1, t2, t3, t4, hap⟩ := app_own (P := Tryz.prog) (M := []) (σ := σ3) (t := 46) (e := 56) (k := 2) (by_ := 64) (es := armR oi) (fs := [(renM NFp l ui x).1.cs]) (by kernel_rfl) (by kernel_rfl) (by kernel_rfl) (by kernel_rfl) (by rw [armR_len, hfl]; exact hG3.t) (armR_hd _) (by simp [Arm.len]) (by simp only [armR_len, hfl, List.length_singleton]; omega) (by simp only [armR_len, hfl, List.length_singleton]; omega)
   have hl3 := hF3.len
   obtain ⟨g1, g2, g3⟩ := hG3.next hS3 (by omega) t1 t2 t3 t4
   rw [armR_len, hfl, List.length_singleton] at g1
   generalize hy : (renM NFp l ui x).1 = y at *
   have hrow : armR oi ++ stripRows [y.cs] = armR (oi ++ [y]) := by rw [armR_app]; simp [stripRows, Arm.stp, armR]
   rw [hrow] at hap
   simp (maxDischargeDepth := 16) [zY, symL, Arm.len, Arm.tk, Arm.put, hap]
   refine hK5 _ _ ?_
   refine J.cw (CW.region ?_)
   simp (maxDischargeDepth := 16) [zY, wrap_succ (show i ≤ 1000000000000 by omega)]
   refine hR2 _ _ ⟨(i + 1, tok', σ4), _, _, rfl, ?_, rfl, ⟨hlt, ?_, ?_, by simpa using g1⟩, show a.length - (i + 1) < a.length - i by omega⟩
   · simp only [hft]
     simp [sub, lk]
   · show St q (foldR (renM NFp l) u (a.take (i + 1))).2 st σ4
     rw [hft]; exact g2
   · refine ((hF.trans0 hF1).trans0 hF3).trans g3 fun p hp => .inr (hG.o p hp).2
 · simp (maxDischargeDepth := 16) [zY, Nat.not_lt.2 hge]
   refine hK4 _ _ ?_
   refine JD.seqK fun K3 hK3 => ?_
   refine JD.cond (t := false) (by simp [zT, zF, lk]) ?_
   refine JD.exit (hR2x _ _ _ (by simp) (hR _ _ _ ?_))
   simp only [outOf, if_true]
   refine hK _ _ ?_
   rw [List.take_of_length_le hge] at hS ⊢
   refine JD.seqK fun K hK => J.cw (CW.region ?_)
   simp (maxDischargeDepth := 16) [zY]
   refine hK _ _ ?_; clear hK K
   refine JD.ret (hR0 _ _ _ ⟨.sl (armR (foldR (renM NFp l) u a).1) tok, by simp [zA, omap, zB, zF, lk], ⟨tok, rfl⟩, hS, hF⟩)
end
section
open Go.RowKit
variable {S : Sp} {N : Nat}
theorem Fr.get {q : RQ} {V : Nat → Prop} {σ σ' : Sto} (h : Fr q V σ σ') {p : Nat} {o : AObj} (hp : ¬ Own q σ p) (hv : ¬ V p) (ho : σ[p]? = some o) : σ'[p]? = some o := by
 rw [h.keep p (List.getElem?_eq_some_iff.1 ho).1 hp hv]; exact ho
structure RnH (S : Sp) : Prop extends FrH S where
 fn : S.ms 31 = []
 fn1 : S.ms 60 = []
 kd : S.ms 57 = []
 kd1 : S.ms 90 = []
 ey : S.ms 56 = []
 ee : S.ms 65 = []
 er : S.ms 62 = []
 em : S.ms 66 = []
 wi : S.ms 59 = [23]
 wis : S.sp 59 = none
 wib : S.base 59 = none
 kp : S.sp 89 = some rkeptF
 tm : S.sp 91 = some rtermF
 am : S.sp 61 = some ratomF
 ea : S.sp 96 = some reachAF
 et : S.sp 97 = some reachTF
 rh : S.ms 63 = []
 rh1 : S.ms 98 = []
 ar : S.ms 67 = []
 ar1 : S.ms 99 = []
 ex : S.ms 33 = []
 ex1 : S.ms 64 = []
theorem St.newA {q : RQ} {u : List ByteArray} {st : ByteArray → List ByteArray} {σ : Sto} (h : St q u st σ) (l : Sto) {p : Nat} (hp : σ.length ≤ p) : ¬ Own q (σ ++ l) p := fun e => by
 have := h.lt ((own_keep (fun p hp => List.getElem?_append_left (h.lt hp)) p).1 e)
 omega
theorem box6 (σ : Sto) (a b c d e f : AObj) : (σ ++ [a, b, c, d, e, f])[σ.length]? = some a ∧ (σ ++ [a, b, c, d, e, f])[σ.length + 1]? = some b ∧ (σ ++ [a, b, c, d, e, f])[σ.length + 2]? = some c ∧ (σ ++ [a, b, c, d, e, f])[σ.length + 3]? = some d ∧ (σ ++ [a, b, c, d, e, f])[σ.length + 4]? = some e ∧ (σ ++ [a, b, c, d, e, f])[σ.length + 5]? = some f ∧ (σ ++ [a, b, c, d, e, f]).length = σ.length + 6 := by simp
def ThenJ (S : Sp) (N : Nat) (q : RQ) (u1 u2 : List ByteArray) (l1 : Bnd) (V : Nat → Prop) (R : Sto → Prop) (tf : FuncId) (tc : List AV) (σ : Sto) : Prop :=
 ∀ (st1 : ByteArray → List ByteArray) (σ1 : Sto), St q u1 st1 σ1 → Top l1 st1 → Fr q nV σ σ1 → JC Tryz.prog (S.E N) tf tc σ1 fun r σ2 => r = .ret (.tup []) ∧ St q u2 st1 σ2 ∧ Fr q V σ1 σ2 ∧ R σ2
def FunJ (S : Sp) (N : Nat) (ps : List Prm) (rs : List Ty) : Prop :=
 ∀ (q : RQ) (u u2 : List ByteArray) (st : ByteArray → List ByteArray) (l : Bnd) (V : Nat → Prop) (R : Sto → Prop) (tf : FuncId) (tc : List AV) (tk1 tk2 : Tok) (σ : Sto), St q u st σ → Top l st → u2.length ≤ 1000000000 → (renYs NFp (renPs NFp l u ps).2.1 (renPs NFp l u ps).2.2 rs).2.length ≤ u2.length → (∀ s ∈ bPs ps, s.size ≤ 1000000000) → (∀ s ∈ bYs rs, s.size ≤ 1000000000) → ps.length ≤ 1000000000 → rs.length ≤ 1000000000 → (∀ p, V p → p < σ.length) →
  ThenJ S N q (renYs NFp (renPs NFp l u ps).2.1 (renPs NFp l u ps).2.2 rs).2 u2 (renPs NFp l u ps).2.1 V R tf tc σ →
  JC Tryz.prog (S.E N) 31 [.ptr q.rid 0, .sl (prmR ps) tk1, .sl (tyR rs) tk2, .fn (.func tf) [] tc] σ fun r σ' =>
   r = .ret (.tup [.sl (prmR (renPs NFp l u ps).1) .no, .sl (tyR (renYs NFp (renPs NFp l u ps).2.1 (renPs NFp l u ps).2.2 rs).1) .no]) ∧ St q u2 st σ' ∧ Fr q V σ σ' ∧ ∃ σ2, R σ2 ∧ Fr q V σ σ2 ∧ Fr q (fun p => σ.length ≤ p) σ2 σ'
theorem fun0_j (H : RnH S) (hN : 0 < N) (rs : List Ty) (hk : ∀ x ∈ rs, OneJ S N 57 Ty.cs (renY NFp) bY x) : FunJ S N [] rs := by
 intro q u u2 st l V R tf tc tk1 tk2 σ h hl hu hu1 hbp hbr hlp hlr hV ht
 rw [renPs] at hu1 ht ⊢
 refine J.callNrm (R := fun r σ' => (∃ tok, r = .ret (.tup [.sl [] .full, .sl (tyR (renYs NFp l u rs).1) tok])) ∧ St q u2 st σ' ∧ Fr q V σ σ' ∧ ∃ σ2, R σ2 ∧ Fr q V σ σ2 ∧ Fr q (fun p => σ.length ≤ p) σ2 σ') ?_ (fun v σ' h => ?_) (fun v σ' h => by obtain ⟨⟨tok, e⟩, _⟩ := h; cases e)
 rotate_left
 · obtain ⟨⟨tok, e⟩, h2⟩ := h
   cases e
   exact ⟨by simp only [AV.nrm, nrmR, nrmRR, prmR, tyR_nrm], h2⟩
 simp only [nrmR, AV.nrm, tyR_nrm, prmR, nrmRR]
 refine JC.startG (fn := Tryz.f31) (codeOf H.code Tryz.func31 rfl (by kernel_rfl)) rfl H.fn rfl (zL rfl) fun tm => ?_
 refine JD.hide fun R0 hR0 => ?_
 refine JD.seqK fun K hK => J.cw (CW.region ?_)
 simp (maxDischargeDepth := 16) [zY]
 refine hK _ _ ?_; clear hK K
 obtain ⟨g4, g5, g6, g7, g8, g9, hla⟩ := box6 σ (.cells [.ptr q.rid 0] 93) (.cells [.sl [] .no] 31) (.cells [.sl (tyR rs) .no] 32) (.cells [.fn (.func tf) [] tc] 1) (.cells [.sl [] .full] 31) (.cells [.sl [] .full] 32)
 have hSa := h.app [.cells [.ptr q.rid 0] 93, .cells [.sl [] .no] 31, .cells [.sl (tyR rs) .no] 32, .cells [.fn (.func tf) [] tc] 1, .cells [.sl [] .full] 31, .cells [.sl [] .full] 32]
 have hFa := h.frA nV [.cells [.ptr q.rid 0] 93, .cells [.sl [] .no] 31, .cells [.sl (tyR rs) .no] 32, .cells [.fn (.func tf) [] tc] 1, .cells [.sl [] .full] 31, .cells [.sl [] .full] 32]
 have hno := fun p hp => h.newA [.cells [.ptr q.rid 0] 93, .cells [.sl [] .no] 31, .cells [.sl (tyR rs) .no] 32, .cells [.fn (.func tf) [] tc] 1, .cells [.sl [] .full] 31, .cells [.sl [] .full] 32] (p := p) hp
 generalize hP : σ.length = P at *
 generalize σ ++ [_, _, _, _, _, _] = σa at *
 refine JD.seqK fun KA hKA => ?_
 refine JD.seqK fun K hK => J.cw (CW.region ?_)
 simp (maxDischargeDepth := 16) [zY, g5]
 refine hK _ _ ?_; clear hK K
 refine JD.cond (t := true) (by simp [zT, zF, lk]) ?_
 refine JD.seqK fun K hK => JD.region ?_
 simp (maxDischargeDepth := 16) [zY, symL, g6, g4]
 dsimp only at hu1 ht ⊢
 refine (eachY_j H.code H.ey q u st l rs .no σa hSa hl (by rw [renYs_f, foldR_u (b := bY) (fun u x => (anew_Y l u x).len), ← bYs_f] at hu1; omega) hbr hlr hk).mono ?_
 rintro r σb ⟨rfl, hSb, hFb⟩
 generalize hrs : (renYs NFp l u rs).1 = rs' at *
 generalize hus : (renYs NFp l u rs).2 = us at *
 have f5 : ∀ k, P ≤ k → k < P + 6 → σb[k]? = σa[k]? ∧ ¬ Own q σb k := fun k h1 h2 => ⟨hFb.keep k (by omega) (hno k h1) (fun x => x), hFb.not (hno k h1) (by omega)⟩
 have b7 := (f5 (P + 3) (by omega) (by omega)).1.trans g7
 have b8 := (f5 (P + 4) (by omega) (by omega)).1.trans g8
 have b9 := (f5 (P + 5) (by omega) (by omega)).1.trans g9
 have hbl := hFb.len
 simp (maxDischargeDepth := 16) [zY, symL, b9]
 refine hK _ _ ?_; clear hK K
 have hn9 := (f5 (P + 5) (by omega) (by omega)).2
 have hSc := hSb.set hn9 (.cells [.sl (tyR rs') .no] 32)
 have hFc := hSb.frS (V := fun p => P ≤ p) hn9 (.inl (by show P ≤ P + 5; omega)) (.cells [.sl (tyR rs') .no] 32)
 have c7 : (σb.set (P + 5) (.cells [.sl (tyR rs') .no] 32))[P + 3]? = some (.cells [.fn (.func tf) [] tc] 1) := by rw [List.getElem?_set_ne (by omega)]; exact b7
 have c8 : (σb.set (P + 5) (.cells [.sl (tyR rs') .no] 32))[P + 4]? = some (.cells [.sl [] .full] 31) := by rw [List.getElem?_set_ne (by omega)]; exact b8
 have c9 : (σb.set (P + 5) (.cells [.sl (tyR rs') .no] 32))[P + 5]? = some (.cells [.sl (tyR rs') .no] 32) := by rw [List.getElem?_set_self (by omega)]
 have hlc : (σb.set (P + 5) (.cells [.sl (tyR rs') .no] 32)).length = σb.length := by simp
 generalize σb.set (P + 5) (.cells [.sl (tyR rs') .no] 32) = σc at *
 have hF0c : Fr q nV σ σc := ((hFa.trans0 hFb).trans hFc fun p hp => .inr (by omega))
 refine JD.seqK fun K hK => JD.region ?_
 simp (maxDischargeDepth := 16) [zY, symL, c7]
 refine (ht st σc hSc hl hF0c).mono ?_
 rintro r σd ⟨rfl, hSd, hFd, hR⟩
 simp (maxDischargeDepth := 16) [zY, symL]
 refine hK _ _ ?_; clear hK K
 have hnc : ∀ k, P ≤ k → k < P + 6 → ¬ Own q σc k ∧ ¬ V k := fun k h1 h2 => ⟨hFc.not (f5 k h1 h2).2 (by omega), fun v => by have := hV k v; omega⟩
 have d8 := hFd.get (hnc (P + 4) (by omega) (by omega)).1 (hnc (P + 4) (by omega) (by omega)).2 c8
 have d9 := hFd.get (hnc (P + 5) (by omega) (by omega)).1 (hnc (P + 5) (by omega) (by omega)).2 c9
 have hdl := hFd.len
 have n8 := hFd.not (hnc (P + 4) (by omega) (by omega)).1 (by omega)
 have n9 := hFd.not (hnc (P + 5) (by omega) (by omega)).1 (by omega)
 refine JD.seqK fun K hK => J.cw (CW.draw (by kernel_rfl) ?_)
 have e9 : (σd.set (P + 4) (.cells [.sl [] .full] 31))[P + 5]? = some (.cells [.sl (tyR rs') .no] 32) := by rw [List.getElem?_set_ne (by omega)]; exact d9
 simp (maxDischargeDepth := 16) [zY, d8, d9, e9]
 refine ⟨drawOk_ren [P + 4, P + 5] (by simp) [.reads 1, .writes 0, .writes 1] (by kernel_rfl) (by kernel_rfl), hK _ _ ?_⟩; clear hK K
 have hS1 := hSd.set n8 (.cells [.sl [] .full] 31)
 have hF1 := hSd.frS (V := fun p => P ≤ p) n8 (.inl (by show P ≤ P + 4; omega)) (.cells [.sl [] .full] 31)
 have n9' := hF1.not n9 (by omega)
 have hS2 := hS1.set n9' (.cells [.sl (tyR rs') .no] 32)
 have hF2 := hS1.frS (V := fun p => P ≤ p) n9' (.inl (by show P ≤ P + 5; omega)) (.cells [.sl (tyR rs') .no] 32)
 have r8 : ((σd.set (P + 4) (.cells [.sl [] .full] 31)).set (P + 5) (.cells [.sl (tyR rs') .no] 32))[P + 4]? = some (.cells [.sl [] .full] 31) := by rw [List.getElem?_set_ne (by omega), List.getElem?_set_self (by omega)]
 have r9 : ((σd.set (P + 4) (.cells [.sl [] .full] 31)).set (P + 5) (.cells [.sl (tyR rs') .no] 32))[P + 5]? = some (.cells [.sl (tyR rs') .no] 32) := by rw [List.getElem?_set_self (by simp; omega)]
 generalize (σd.set (P + 4) (.cells [.sl [] .full] 31)).set (P + 5) (.cells [.sl (tyR rs') .no] 32) = σe at *
 refine JD.ret (hR0 _ _ _ ⟨.tup [.sl [] .full, .sl (tyR rs') .no], by simp [zA, omap, zC, zX, r8, r9], ⟨.no, rfl⟩, hS2, ?_, σd, hR, hF0c.none.trans0 hFd, hF1.trans0 hF2⟩)
 exact (hF0c.none.trans0 hFd).trans (hF1.trans0 hF2) fun p hp => .inr (by omega)
end
section
open Go.RowKit
variable {S : Sp} {N : Nat}
theorem funC_j (H : RnH S) (hN : 0 < N) (c : List AV) (hc10 : c.length = 10) (ps : List Prm) (rs : List Ty) (ih : FunJ S N ps rs) (q : RQ) (u u2 : List ByteArray) (st : ByteArray → List ByteArray) (l : Bnd) (V : Nat → Prop) (R : Sto → Prop) (tf : FuncId) (tc : List AV) (P : Nat) (x8 x9 : AV) (σ : Sto) (h : St q u st σ) (hl : Top l st) (hu : u2.length ≤ 1000000000) (hu1 : (renYs NFp (renPs NFp l u ps).2.1 (renPs NFp l u ps).2.2 rs).2.length ≤ u2.length) (hbp : ∀ s ∈ bPs ps, s.size ≤ 1000000000) (hbr : ∀ s ∈ bYs rs, s.size ≤ 1000000000) (hlp : ps.length ≤ 1000000000) (hlr : rs.length ≤ 1000000000)
    (g4 : σ[P]? = some (.cells [.ptr q.rid 0] 93)) (g5 : σ[P + 1]? = some (.cells [.sl (c :: prmR ps) .no] 31)) (g6 : σ[P + 2]? = some (.cells [.sl (tyR rs) .no] 32)) (g7 : σ[P + 3]? = some (.cells [.fn (.func tf) [] tc] 1)) (g8 : σ[P + 4]? = some (.cells [x8] 31)) (g9 : σ[P + 5]? = some (.cells [x9] 32))
    (hno : ∀ k, P ≤ k → k < P + 6 → ¬ Own q σ k) (hV : ∀ p, V p → p < P)
    (ht : ThenJ S N q (renYs NFp (renPs NFp l u ps).2.1 (renPs NFp l u ps).2.2 rs).2 u2 (renPs NFp l u ps).2.1 V R tf tc σ) :
    JC Tryz.prog (S.E N) 60 [.ptr P 0, .ptr (P + 1) 0, .ptr (P + 2) 0, .ptr (P + 3) 0, .ptr (P + 4) 0, .ptr (P + 5) 0] σ fun r σ' => r = .ret (.tup []) ∧ St q u2 st σ' ∧ Fr q (fun p => V p ∨ p = P + 4 ∨ p = P + 5) σ σ' ∧
     (σ'[P + 4]? = some (.cells [.sl (prmR (renPs NFp l u ps).1) .no] 31) ∧ σ'[P + 5]? = some (.cells [.sl (tyR (renYs NFp (renPs NFp l u ps).2.1 (renPs NFp l u ps).2.2 rs).1) .no] 32) ∧ ∃ σ2, R σ2 ∧ Fr q V σ σ2 ∧ Fr q (fun p => P ≤ p) σ2 σ') := by
 have hl9 := (List.getElem?_eq_some_iff.1 g9).1
 refine JC.startG (fn := Tryz.f60) (codeOf H.code Tryz.func60 rfl (by kernel_rfl)) rfl H.fn1 rfl (zL rfl) fun tm => ?_
 refine JD.hide fun R0 hR0 => ?_
 refine JD.draw1 [0, 1, 2, 3, 4, 5, 6, 7, 8, 9, 10] [5] [P, P + 1, P + 2, P + 3] (by simp) [.reads 0, .reads 1, .pure, .reads 2, .reads 3, .any, .pure, .pure, .pure, .any, .any] [] (by kernel_rfl) ?_
 have hle1 : (1 : Int) ≤ (ps.length : Int) + 1 := by omega
 have htn : ((ps.length : Int) + 1).toNat = ps.length + 1 := by omega
 have htk : List.take ps.length (prmR ps) = prmR ps := List.take_of_length_le (by simp)
 simp (maxDischargeDepth := 16) [zY, symD, g4, g5, g6, g7, prmR_len, sliceTok, hle1, htn, htk, hc10]
 refine (ih q u u2 st l V R tf tc .no .no σ h hl hu hu1 hbp hbr hlp hlr (fun p hp => by have := hV p hp; omega) ht).mono ?_
 rintro r σ1 ⟨rfl, hS1, hF1, σ2, hR, hFr, hF2⟩
 generalize hps : (renPs NFp l u ps).1 = ps' at *
 generalize (renYs NFp (renPs NFp l u ps).2.1 (renPs NFp l u ps).2.2 rs).1 = rs' at *
 have hl1 := hF1.len
 have h8 := hF1.get (hno (P + 4) (by omega) (by omega)) (fun v => by have := hV _ v; omega) g8
 have h9 := hF1.get (hno (P + 5) (by omega) (by omega)) (fun v => by have := hV _ v; omega) g9
 have n8 := hF1.not (hno (P + 4) (by omega) (by omega)) (by omega)
 have n9 := hF1.not (hno (P + 5) (by omega) (by omega)) (by omega)
 have e9 : (σ1.set (P + 4) (.cells [.sl (prmR ps') .no] 31))[P + 5]? = some (.cells [x9] 32) := by rw [List.getElem?_set_ne (by omega)]; exact h9
 simp (maxDischargeDepth := 16) [zY, symD, h8, h9, e9, all_nil]
 have hS3 := hS1.set n8 (.cells [.sl (prmR ps') .no] 31)
 have hF3 := hS1.frS (V := fun p => p = P + 4 ∨ p = P + 5) n8 (.inl (.inl rfl)) (.cells [.sl (prmR ps') .no] 31)
 have n9' := hF3.not n9 (by omega)
 have hS4 := hS3.set n9' (.cells [.sl (tyR rs') .no] 32)
 have hF4 := hF3.trans0 (hS3.frS (V := fun p => p = P + 4 ∨ p = P + 5) n9' (.inl (.inr rfl)) (.cells [.sl (tyR rs') .no] 32))
 have r8 : ((σ1.set (P + 4) (.cells [.sl (prmR ps') .no] 31)).set (P + 5) (.cells [.sl (tyR rs') .no] 32))[P + 4]? = some (.cells [.sl (prmR ps') .no] 31) := by rw [List.getElem?_set_ne (by omega), List.getElem?_set_self (by omega)]
 have r9 : ((σ1.set (P + 4) (.cells [.sl (prmR ps') .no] 31)).set (P + 5) (.cells [.sl (tyR rs') .no] 32))[P + 5]? = some (.cells [.sl (tyR rs') .no] 32) := by rw [List.getElem?_set_self (by simp; omega)]
 generalize (σ1.set (P + 4) (.cells [.sl (prmR ps') .no] 31)).set (P + 5) (.cells [.sl (tyR rs') .no] 32) = σ4 at *
 refine hR0 _ _ _ ⟨.tup [], by simp [zA, omap], rfl, hS4, ?_, r8, r9, σ2, hR, hFr, ?_⟩
 · exact (hF1.more fun p hp => .inl (.inl hp)).trans hF4 fun p hp => .inl (.inr hp)
 · exact (hF2.more fun p hp => .inl (by have := hF1.len; omega)).trans hF4 fun p hp => .inl (by rcases hp with rfl | rfl <;> omega)
end
end Go.Proofs.YteajcnilihgheaaGreatDoor
