/-
 EV: the document's answer for layer 19: rhs (printed by gen_sc9.py).
-/
import Derived.Test.YteajcnilihgheaaGreatDoorSc6M
namespace Go.Proofs.YteajcnilihgheaaGreatDoor
set_option maxRecDepth 100000
set_option maxHeartbeats 8000000
set_option linter.unusedSimpArgs false
set_option linter.unusedVariables false
section
open Go.RowKit
variable {S : Sp} {N : Nat}
theorem atom9_inj (a b : List (ByteArray × ByteArray) × Atm) (e : [AV.sl (bndR a.1) .no, .agg a.2.cs] = [.sl (bndR b.1) .no, .agg b.2.cs]) : a = b := by
 simp only [List.cons.injEq, AV.sl.injEq, AV.agg.injEq, and_true] at e
 exact Prod.ext (bndR_inj e.1) (Atm.inj e.2)
theorem rhs9_2 (H : H9K S) {q : Q9} {u : List ByteArray} {σ σ1 : Sto} {P : Nat} {c0 c1 c3 c4 c5 c6 vt vp vr ve vk vn : AV} {ts : List Atm} {l : List (ByteArray × ByteArray)} (h : W9 q u σ σ1 P 52 [c0, c1, .sl (atmR ts) .no, c3, c4, c5, c6] [vk, vn, .sl [] .full, vp, vr, ve, vt] 7) (hl : l.length ≤ 1000000000) (hn : atmN ts ≤ 1000000000) (hN : 16 * atmN ts + 3 < N)
    {R0 : AExit → List AV → Sto → Prop} (next : ∀ tok σ2 tm, W9 q u σ σ2 P 52 [c0, c1, .sl (atmR ts) .no, c3, c4, c5, c6] [vk, vn, .sl (atmR (ts.map (renA l.reverse))) tok, vp, vr, ve, vt] 7 → JD Tryz.prog (S.E N) [] (tailC 3 rhs9B) (fm 78 [(0, .ptr q.rid 0), (1, .sl (bndR l) .no), (5, .ptr P 0), (6, .ptr (P + 1) 0), (7, .ptr (P + 2) 0)] tm) σ2 R0) (tm : List AV) :
    JD Tryz.prog (S.E N) [] (tailC 2 rhs9B) (fm 78 [(0, .ptr q.rid 0), (1, .sl (bndR l) .no), (5, .ptr P 0), (6, .ptr (P + 1) 0), (7, .ptr (P + 2) 0)] tm) σ1 R0 := by
 have hlen := atmN_len ts
 refine JD.seqK fun KL hKL => ?_
 refine JD.seqK fun K hK => J.cw (CW.region ?_)
 simp (maxDischargeDepth := 16) [zY]
 refine hK _ _ ?_; clear hK K
 refine JD.block (JD.hide fun R1 hR1 => ?_)
 refine JD.loopF (fun p : Nat × Tok × Sto => [(0, .ptr q.rid 0), (1, .sl (bndR l) .no), (5, .ptr P 0), (6, .ptr (P + 1) 0), (7, .ptr (P + 2) 0), (8, intV p.1)]) (fun p => p.2.2) (fun p => p.1 ≤ ts.length ∧ W9 q u σ p.2.2 P 52 [c0, c1, .sl (atmR ts) .no, c3, c4, c5, c6] [vk, vn, .sl (atmR ((ts.take p.1).map (renA l.reverse))) p.2.1, vp, vr, ve, vt] 7 ∧ K9t q P p.2.2 (p.1 * 5) 41 p.2.1) (fun p => ts.length - p.1) (0, .full, σ1) (by simp [sub, lk]) rfl ⟨by simp, by simpa [atmR] using h, by simpa using K9t.nil q P σ1 41⟩ ?_
 clear h
 rintro ⟨i, tok, σ2⟩ tm ⟨hi, hH, hT⟩ R2 hR2 hR2x
 dsimp only at hi hH hT hR2 ⊢
 refine JD.seqK fun K3 hK3 => ?_
 have a0 := hH.a0
 rcases Nat.lt_or_ge i ts.length with hlt | hge
 · have ha := atmR_get hlt
   have hgn := atmN_get hlt
   have hrl : ((ts.take i).map (renA l.reverse)).length = i := by rw [List.length_map, List.length_take_of_le hi]
   have hst : (ts.take (i + 1)).map (renA l.reverse) = (ts.take i).map (renA l.reverse) ++ [renA l.reverse ts[i]] := by rw [List.take_succ_eq_append_getElem hlt, List.map_append]; rfl
   refine JD.seqK fun K hK => J.cw (CW.region ?_)
   simp (maxDischargeDepth := 16) [zY, a0, hlt]
   refine hK _ _ ?_; clear hK K
   refine JD.cond (t := true) (by simp [zT, zF, lk]) ?_
   refine JD.skip (hK3 _ _ ?_)
   refine JD.keep [0, 1, 5, 6, 7, 8] fun tm => ?_
   simp only [sel, List.contains_cons, List.contains_nil, Bool.or_false, Nat.reduceBEq, Bool.false_eq_true, if_false, if_true, Bool.or_true, Bool.true_or]
   refine JD.seqK fun K5 hK5 => JD.block ?_
   have hcall : ∀ (σ2 : Sto) (Q : ARes → Sto → Prop), Q (.ret (.agg (renA l.reverse ts[i]).cs)) σ2 → JC Tryz.prog (S.E N) 76 [.sl (bndR l) .no, .agg ts[i].cs] σ2 Q := fun σ2 Q hq => J.callW (call_sm (l, ts[i]) H.am atom9_inj (by simp only [nrmR, AV.nrm, bndR_nrm, Atm.nrm]) ⟨hl, by dsimp only; omega⟩ (by dsimp only; omega) fun _ => hq)
   have fin : ∀ (y : Atm) (tok' : Tok) (σ5 : Sto) (fr : List (Nat × AV)) (tm : List AV), (ts.take (i + 1)).map (renA l.reverse) = (ts.take i).map (renA l.reverse) ++ [y] → W9 q u σ σ5 P 52 [c0, c1, .sl (atmR ts) .no, c3, c4, c5, c6] [vk, vn, .sl (atmR ((ts.take i).map (renA l.reverse) ++ [y])) tok', vp, vr, ve, vt] 7 → K9t q P σ5 ((i + 1) * 5) 41 tok' → sub [(0, .ptr q.rid 0), (1, .sl (bndR l) .no), (5, .ptr P 0), (6, .ptr (P + 1) 0), (7, .ptr (P + 2) 0), (8, intV i)] fr → K5 (fm 78 fr tm) σ5 := by
    intro y tok' σ5 fr tm e g1 g2 hfr
    rw [fm_sub hfr]
    refine hK5 _ _ (J.cw (CW.region ?_))
    simp (maxDischargeDepth := 16) [zY, wrap_succ (show i ≤ 1000000000000 by omega)]
    refine hR2 _ _ ⟨(i + 1, tok', σ5), _, _, rfl, by simp [sub, lk], rfl, ⟨hlt, ?_, g2⟩, show ts.length - (i + 1) < ts.length - i by omega⟩
    dsimp only
    rw [e]; exact g1
   clear hR2 hR2x hK5
   replace fin := fun tok' σ5 fr tm => fin (renA l.reverse ts[i]) tok' σ5 fr tm hst
   generalize renA l.reverse ts[i] = y at *
   have htl := ts[i].len
   have htk := ts[i].tk
   generalize ts[i].cs = xc at *
   generalize (ts.take i).map (renA l.reverse) = oi at *
   have a2 := hH.a2
   obtain ⟨tok', σ5, acc, t1, t2, t3, t4, hap⟩ := app_own (P := Tryz.prog) (M := []) (σ := σ2) (t := 43) (e := 41) (k := 4) (by_ := 64) (es := atmR oi) (fs := [y.cs]) (by kernel_rfl) (by kernel_rfl) (by kernel_rfl) (by kernel_rfl) (by rw [atmR_len, hrl]; exact hT.t) (atmR_hd _) (by simp [Atm.len]) (by simp only [atmR_len, hrl, List.length_singleton]; omega) (by simp only [atmR_len, hrl, List.length_singleton]; omega)
   have hrow : atmR oi ++ stripRows [y.cs] = atmR (oi ++ [y]) := by rw [atmR_app]; simp [stripRows, Atm.stp, atmR]
   rw [hrow] at hap
   obtain ⟨g1, g2, g3⟩ := hT.next hH.s (by rw [List.length_replicate]; exact hH.lt) t1 t2 t3 t4
   rw [atmR_len, hrl, List.length_singleton] at g1
   have hH5 := hH.go g2 g3 fun p hp => hT.gt hp
   have b2 := hH5.a2
   have hH6 := hH5.put [vk, vn, .sl (atmR (oi ++ [y])) tok', vp, vr, ve, vt]
   have hK6 := hH5.putK [vk, vn, .sl (atmR (oi ++ [y])) tok', vp, vr, ve, vt] g1
   refine JD.draw1 [0, 1, 2, 3, 4, 5, 6, 7, 8, 9, 10, 11, 12] [8] [P, P + 2] (by simp) [.pure, .reads 1, .pure, .pure, .reads 0, .pure, .pure, .pure, .any, .pure, .any, .pure, .any] [0, 1] (by kernel_rfl) ?_
   simp (maxDischargeDepth := 16) [zY, symD, a0, a2, ha, htl, htk]
   refine hcall _ _ ?_
   simp (maxDischargeDepth := 16) [zY, symD, a0, a2, ha, htl, htk, Atm.len, Atm.tk, Atm.put, all_nil, all_cons, hap, b2]
   refine fin tok' _ _ _ hH6 hK6 ?_
   simp [sub, lk]
 · obtain rfl : i = ts.length := by omega
   rw [List.take_length] at hH
   refine JD.seqK fun K hK => J.cw (CW.region ?_)
   simp (maxDischargeDepth := 16) [zY, a0, Nat.not_lt.2 hge]
   refine hK _ _ ?_; clear hK K
   refine JD.cond (t := false) (by simp [zT, zF, lk]) ?_
   refine JD.exit (hR2x _ _ _ (by simp) (hR1 _ _ _ ?_))
   simp only [outOf, if_true]
   refine hKL _ _ ?_
   refine JD.keep [0, 1, 5, 6, 7] fun tm => ?_
   simp only [sel, List.contains_cons, List.contains_nil, Bool.or_false, Nat.reduceBEq, Bool.false_eq_true, if_false, if_true, Bool.or_true, Bool.true_or]
   exact next tok σ2 _ hH
theorem rhs9_3 (H : H9K S) {q : Q9} {u : List ByteArray} {σ σ1 : Sto} {P : Nat} {c0 c1 c2 va vp vr ve vk vn : AV} {ps : List Prm} {rs : List Ty} {bd : List Exp} {ts : List Trm} {l : List (ByteArray × ByteArray)} (h : W9 q u σ σ1 P 52 [c0, c1, c2, .sl (prmR ps) .no, .sl (tyR rs) .no, .sl (expR bd) .no, .sl (trmR ts) .no] [vk, vn, va, vp, vr, ve, .sl [] .full] 7) (hf : Fu9 S N ps rs) (he : Es9 S N bd) (hl : l.length + (bPs ps ++ bYs rs ++ bEs bd).length ≤ 1000000000) (hu : u.length + (bPs ps ++ bYs rs ++ bEs bd).length ≤ 1000000000) (hb : ∀ s ∈ bPs ps ++ bYs rs ++ bEs bd, s.size ≤ 1000000000) (hn : trmN ts ≤ 1000000000) (hN : 16 * trmN ts + 4 < N)
    {R0 : AExit → List AV → Sto → Prop} (hR : ∀ fr tm σ' tok, (∀ d, lk 6 fr d = .ptr (P + 1) 0) → σ'[P + 1]? = some (AObj.cells [vk, vn, va, .sl (prmR (renPs NFp l.reverse u ps).1) .no, .sl (tyR (renYs NFp (renPs NFp l.reverse u ps).2.1 (renPs NFp l.reverse u ps).2.2 rs).1) .no, .sl (expR (renEs NFp (renPs NFp l.reverse u ps).2.1 (renYs NFp (renPs NFp l.reverse u ps).2.1 (renPs NFp l.reverse u ps).2.2 rs).2 bd).1) .no, .sl (trmR (renTs l.reverse ts)) tok] 52) → S9 q (renEs NFp (renPs NFp l.reverse u ps).2.1 (renYs NFp (renPs NFp l.reverse u ps).2.1 (renPs NFp l.reverse u ps).2.2 rs).2 bd).2 σ' → F9 q nV σ σ' → R0 .ret (fm 78 fr tm) σ') (tm : List AV) :
    JD Tryz.prog (S.E N) [] (tailC 3 rhs9B) (fm 78 [(0, .ptr q.rid 0), (1, .sl (bndR l) .no), (5, .ptr P 0), (6, .ptr (P + 1) 0), (7, .ptr (P + 2) 0)] tm) σ1 R0 := by
 have a0 := h.a0
 have hff := hf q u l σ1 h.s (by simp only [List.length_append] at hl ⊢; omega) (by simp only [List.length_append] at hu ⊢; omega) (fun s hs => hb s (List.mem_append_left _ hs))
 have e1 := renPs_l2 l.reverse u ps
 have e2 := (anew_Ps (F := NFp) l.reverse u ps).len
 have e3 := (anew_Ys (F := NFp) (renPs NFp l.reverse u ps).2.1 (renPs NFp l.reverse u ps).2.2 rs).len
 have e4 := bPs_len ps
 rw [List.length_reverse] at e1
 refine JD.seqK fun K hK => JD.region ?_
 simp (maxDischargeDepth := 16) [zY, symL, a0]
 refine hff.mono ?_
 rintro r σ2 ⟨rfl, hS2, hF2⟩
 have hW2 := h.go hS2 hF2 fun p hp => hp.elim
 clear hff hF2 hS2
 generalize (renYs NFp (renPs NFp l.reverse u ps).2.1 (renPs NFp l.reverse u ps).2.2 rs).1 = rs' at *
 generalize (renYs NFp (renPs NFp l.reverse u ps).2.1 (renPs NFp l.reverse u ps).2.2 rs).2 = u2 at *
 generalize (renPs NFp l.reverse u ps).1 = ps' at *
 generalize (renPs NFp l.reverse u ps).2.1 = lp at *
 simp only [List.length_append] at hl hu
 simp (maxDischargeDepth := 16) [zY, symL]
 refine hK _ _ ?_; clear hK K
 have a2 := hW2.a2
 refine JD.seqK fun K hK => J.cw (CW.region ?_)
 simp (maxDischargeDepth := 16) [zY, a2]
 refine hK _ _ ?_; clear hK K
 have hW3 := hW2.put [vk, vn, va, .sl (prmR ps') .no, vr, ve, .sl [] .full]
 generalize σ2.set (P + 2) (.cells [vk, vn, va, .sl (prmR ps') .no, vr, ve, .sl [] .full] 52) = σ3 at *
 have a3 := hW3.a2
 refine JD.seqK fun K hK => J.cw (CW.region ?_)
 simp (maxDischargeDepth := 16) [zY, a3]
 refine hK _ _ ?_; clear hK K
 have hW4 := hW3.put [vk, vn, va, .sl (prmR ps') .no, .sl (tyR rs') .no, ve, .sl [] .full]
 generalize σ3.set (P + 2) (.cells [vk, vn, va, .sl (prmR ps') .no, .sl (tyR rs') .no, ve, .sl [] .full] 52) = σ4 at *
 have b0 := hW4.a0
 have hee := he q u2 lp.reverse σ4 hW4.s (by rw [List.length_reverse]; omega) (by omega) (fun s hs => hb s (List.mem_append_right _ hs))
 rw [List.reverse_reverse] at hee
 refine JD.seqK fun K hK => JD.region ?_
 simp (maxDischargeDepth := 16) [zY, symL, b0]
 refine hee.mono ?_
 rintro r σ5 ⟨rfl, hS5, hF5⟩
 have hW5 := hW4.go hS5 hF5 fun p hp => hp.elim
 generalize (renEs NFp lp u2 bd).1 = bd' at *
 generalize (renEs NFp lp u2 bd).2 = u3 at *
 have a5 := hW5.a2
 simp (maxDischargeDepth := 16) [zY, symL, a5]
 refine hK _ _ ?_; clear hK K
 have hW6 := hW5.put [vk, vn, va, .sl (prmR ps') .no, .sl (tyR rs') .no, .sl (expR bd') .no, .sl [] .full]
 refine JD.keep [1, 5, 6, 7] fun tm => ?_
 simp only [sel, List.contains_cons, List.contains_nil, Bool.or_false, Nat.reduceBEq, Bool.false_eq_true, if_false, if_true, Bool.or_true, Bool.true_or]
 exact rhs9_7 H hW6 (by omega) hn hN hR _
theorem W9.new {q : Q9} {u : List ByteArray} {σ : Sto} (h : S9 q u σ) (T : TypeId) (bx z vs : List AV) : W9 q u σ (σ ++ [.cells bx T, .cells z T, .cells vs T]) σ.length T bx vs z.length := by
 obtain ⟨g0, g1, g2, hl⟩ := box3 σ (.cells bx T) (.cells z T) (.cells vs T)
 exact { s := h.app _, f := h.frA nV _, l := rfl, n0 := h.newA _ (Nat.le_refl _), n1 := h.newA _ (by omega), n2 := h.newA _ (by omega), a0 := g0, a1 := ⟨z, g1, rfl⟩, a2 := g2 }
theorem rhs9_j (H : H9K S) (k : Int) (nm : ByteArray) (ats : List Atm) (ps : List Prm) (rs : List Ty) (bd : List Exp) (ts : List Trm) (hf : Fu9 S N ps rs) (he : Es9 S N bd) (hn : (Rhs.mk k nm ats ps rs bd ts).n ≤ 1000000000) (hN : 16 * (Rhs.mk k nm ats ps rs bd ts).n + 4 < N) :
    K9 S N 77 Rhs.cs (renR NFp) bR (.mk k nm ats ps rs bd ts) := by
 intro q u l σ h hl hu hb
 rw [show bR (.mk k nm ats ps rs bd ts) = bPs ps ++ bYs rs ++ bEs bd by rw [bR]] at hl hu hb
 simp only [Rhs.n] at hn hN
 have hle1 : l.length ≤ 1000000000 := by omega
 refine J.callNrm (R := fun r σ' => (∃ t1 t2, r = .ret (.agg [.lit (.int .u8 k), .lit (.string nm), .sl (atmR (ats.map (renA l.reverse))) t1, .sl (prmR (renPs NFp l.reverse u ps).1) .no, .sl (tyR (renYs NFp (renPs NFp l.reverse u ps).2.1 (renPs NFp l.reverse u ps).2.2 rs).1) .no, .sl (expR (renEs NFp (renPs NFp l.reverse u ps).2.1 (renYs NFp (renPs NFp l.reverse u ps).2.1 (renPs NFp l.reverse u ps).2.2 rs).2 bd).1) .no, .sl (trmR (renTs l.reverse ts)) t2])) ∧ S9 q (renEs NFp (renPs NFp l.reverse u ps).2.1 (renYs NFp (renPs NFp l.reverse u ps).2.1 (renPs NFp l.reverse u ps).2.2 rs).2 bd).2 σ' ∧ F9 q nV σ σ') ?_ (fun v σ' h => ?_) (fun v σ' h => by obtain ⟨⟨t1, t2, e⟩, _⟩ := h; cases e)
 rotate_left
 · obtain ⟨⟨t1, t2, e⟩, h2⟩ := h
   cases e
   rw [renR]
   exact ⟨by simp only [AV.nrm, nrmR, Rhs.cs, atmR_nrm, prmR_nrm, tyR_nrm, expR_nrm, trmR_nrm], h2⟩
 simp only [nrmR, AV.nrm, Rhs.nrm, bndR_nrm]
 refine JC.startG (fn := Tryz.f77) (codeOf H.code Tryz.func77 rfl (by kernel_rfl)) rfl H.rh rfl (zL rfl) fun tm => ?_
 refine JD.hide fun R0 hR0 => ?_
 simp only [Rhs.cs]
 refine JD.seqK fun K hK => J.cw (CW.region ?_)
 simp (maxDischargeDepth := 16) [zY]
 refine hK _ _ ?_; clear hK K
 refine JD.seqK fun K hK => J.cw (CW.region ?_)
 simp (maxDischargeDepth := 16) [zY]
 refine hK _ _ ?_; clear hK K
 have hW := W9.new h 52 [.lit (.int .u8 k), .lit (.string nm), .sl (atmR ats) .no, .sl (prmR ps) .no, .sl (tyR rs) .no, .sl (expR bd) .no, .sl (trmR ts) .no] [.lit (.int .u8 0), .lit (.string ⟨#[]⟩), .sl [] .full, .sl [] .full, .sl [] .full, .sl [] .full, .sl [] .full] [.lit (.int .u8 k), .lit (.string nm), .sl [] .full, .sl [] .full, .sl [] .full, .sl [] .full, .sl [] .full]
 refine JD.keep [0, 1, 5, 6, 7] fun tm => ?_
 simp only [sel, List.contains_cons, List.contains_nil, Bool.or_false, Nat.reduceBEq, Bool.false_eq_true, if_false, if_true, Bool.or_true, Bool.true_or]
 refine rhs9_2 H hW hle1 (by omega) (by omega) (fun tok σ2 tm hW2 => ?_) _
 refine rhs9_3 H hW2 hf he hl hu hb (by omega) (by omega) (fun fr tm σ' tok' g1 g2 g3 g4 => ?_) tm
 exact hR0 _ _ _ ⟨_, by simp [zA, omap, zC, zX, g1, g2], ⟨tok, tok', rfl⟩, g3, g4⟩
end
section
open Go.RowKit
variable {S : Sp} {N : Nat}
noncomputable abbrev expr9B : Code := Tryz.f46.body.getD .skip
theorem expr9_4 (H : H9K S) {q : Q9} {u : List ByteArray} {σ σ1 : Sto} {P : Nat} {c0 c1 c3 c4 c5 c6 c7 c8 c9 c10 v0 v1 v3 v4 v5 v6 v7 v8 v9 v10 : AV} {ts : List Ty} {l l2 : List (ByteArray × ByteArray)} (h : W9 q u σ σ1 P 49 [c0, c1, .sl (tyR ts) .no, c3, c4, c5, c6, c7, c8, c9, c10] [v0, v1, .sl [] .full, v3, v4, v5, v6, v7, v8, v9, v10] 11) (hone : ∀ x ∈ ts, K9 S N 74 Ty.cs (renY NFp) bY x) (hlen : ts.length ≤ 1000000000) (hl : l.length + (ts.flatMap bY).length ≤ 1000000000) (hu : u.length + (ts.flatMap bY).length ≤ 1000000000) (hb : ∀ s ∈ ts.flatMap bY, s.size ≤ 1000000000)
    {R0 : AExit → List AV → Sto → Prop} (next : ∀ tok σ2 tm, W9 q (foldR (renY NFp l.reverse) u ts).2 σ σ2 P 49 [c0, c1, .sl (tyR ts) .no, c3, c4, c5, c6, c7, c8, c9, c10] [v0, v1, .sl (tyR (foldR (renY NFp l.reverse) u ts).1) tok, v3, v4, v5, v6, v7, v8, v9, v10] 11 → JD Tryz.prog (S.E N) [] (tailC 5 expr9B) (fm 162 [(0, .ptr q.rid 0), (1, .sl (bndR l) .no), (5, .ptr P 0), (6, .ptr (P + 1) 0), (7, .ptr (P + 2) 0), (8, .sl (bndR l2) .no)] tm) σ2 R0) (tm : List AV) :
    JD Tryz.prog (S.E N) [] (tailC 4 expr9B) (fm 162 [(0, .ptr q.rid 0), (1, .sl (bndR l) .no), (5, .ptr P 0), (6, .ptr (P + 1) 0), (7, .ptr (P + 2) 0), (8, .sl (bndR l2) .no)] tm) σ1 R0 := by
 have hbl : ∀ u x, (renY NFp l.reverse u x).2.length = u.length + (bY x).length := fun u x => (anew_Y l.reverse u x).len
 refine JD.seqK fun KL hKL => ?_
 refine JD.seqK fun K hK => J.cw (CW.region ?_)
 simp (maxDischargeDepth := 16) [zY]
 refine hK _ _ ?_; clear hK K
 refine JD.block (JD.hide fun R1 hR1 => ?_)
 refine JD.loopF (fun p : Nat × Tok × Sto => [(0, .ptr q.rid 0), (1, .sl (bndR l) .no), (5, .ptr P 0), (6, .ptr (P + 1) 0), (7, .ptr (P + 2) 0), (8, .sl (bndR l2) .no), (9, intV p.1)]) (fun p => p.2.2) (fun p => p.1 ≤ ts.length ∧ W9 q (foldR (renY NFp l.reverse) u (ts.take p.1)).2 σ p.2.2 P 49 [c0, c1, .sl (tyR ts) .no, c3, c4, c5, c6, c7, c8, c9, c10] [v0, v1, .sl (tyR (foldR (renY NFp l.reverse) u (ts.take p.1)).1) p.2.1, v3, v4, v5, v6, v7, v8, v9, v10] 11 ∧ K9t q P p.2.2 (p.1 * 9) 34 p.2.1) (fun p => ts.length - p.1) (0, .full, σ1) (by simp [sub, lk]) rfl ⟨by simp, by simpa [foldR, tyR] using h, by simpa using K9t.nil q P σ1 34⟩ ?_
 clear h
 rintro ⟨i, tok, σ2⟩ tm ⟨hi, hH, hT⟩ R2 hR2 hR2x
 dsimp only at hi hH hT hR2 ⊢
 refine JD.seqK fun K3 hK3 => ?_
 have a0 := hH.a0
 rcases Nat.lt_or_ge i ts.length with hlt | hge
 · have ha := tyR_get hlt
   have hft := foldR_take (renY NFp l.reverse) u hlt
   have hfl : (foldR (renY NFp l.reverse) u (ts.take i)).1.length = i := by rw [foldR_len]; exact List.length_take_of_le hi
   obtain ⟨hle, hmem⟩ := foldR_le hbl u hlt
   have hbs : (bY ts[i]).length ≤ (ts.flatMap bY).length := by have := (flat_take (b := bY) hlt).2; omega
   have hk := hone _ (List.getElem_mem hlt)
   refine JD.seqK fun K hK => J.cw (CW.region ?_)
   simp (maxDischargeDepth := 16) [zY, a0, hlt]
   refine hK _ _ ?_; clear hK K
   refine JD.cond (t := true) (by simp [zT, zF, lk]) ?_
   refine JD.skip (hK3 _ _ ?_)
   refine JD.keep [0, 1, 5, 6, 7, 8, 9] fun tm => ?_
   simp only [sel, List.contains_cons, List.contains_nil, Bool.or_false, Nat.reduceBEq, Bool.false_eq_true, if_false, if_true, Bool.or_true, Bool.true_or]
   refine JD.seqK fun K5 hK5 => JD.block ?_
   have fin : ∀ (y : Ty) (u2 : List ByteArray) (tok' : Tok) (σ5 : Sto) (fr : List (Nat × AV)) (tm : List AV), foldR (renY NFp l.reverse) u (ts.take (i + 1)) = ((foldR (renY NFp l.reverse) u (ts.take i)).1 ++ [y], u2) → W9 q u2 σ σ5 P 49 [c0, c1, .sl (tyR ts) .no, c3, c4, c5, c6, c7, c8, c9, c10] [v0, v1, .sl (tyR ((foldR (renY NFp l.reverse) u (ts.take i)).1 ++ [y])) tok', v3, v4, v5, v6, v7, v8, v9, v10] 11 → K9t q P σ5 ((i + 1) * 9) 34 tok' → sub [(0, .ptr q.rid 0), (1, .sl (bndR l) .no), (5, .ptr P 0), (6, .ptr (P + 1) 0), (7, .ptr (P + 2) 0), (8, .sl (bndR l2) .no), (9, intV i)] fr → K5 (fm 162 fr tm) σ5 := by
    intro y u2 tok' σ5 fr tm e g1 g2 hfr
    rw [fm_sub hfr]
    refine hK5 _ _ (J.cw (CW.region ?_))
    simp (maxDischargeDepth := 16) [zY, wrap_succ (show i ≤ 1000000000000 by omega)]
    refine hR2 _ _ ⟨(i + 1, tok', σ5), _, _, rfl, by simp [sub, lk], rfl, ⟨hlt, ?_, g2⟩, show ts.length - (i + 1) < ts.length - i by omega⟩
    dsimp only
    rw [e]; exact g1
   clear hR2 hR2x hK5
   replace fin := fun tok' σ5 fr tm => fin _ _ tok' σ5 fr tm hft
   generalize ts[i] = x at *
   generalize (foldR (renY NFp l.reverse) u (ts.take i)).2 = ui at *
   generalize (foldR (renY NFp l.reverse) u (ts.take i)).1 = oi at *
   refine JD.seqK fun K hK => JD.region ?_
   simp (maxDischargeDepth := 16) [zY, symL, a0, ha, Ty.len, Ty.tk]
   refine (hk q ui l σ2 hH.s (by omega) (by omega) (fun s hs => hb s (hmem s hs))).mono ?_
   rintro r σ3 ⟨rfl, hS3, hF3⟩
   have hH3 := hH.go hS3 hF3 fun p hp => hp.elim
   have hT3 := hT.keep hF3 fun p h => h.elim
   generalize (renY NFp l.reverse ui x).1 = y at *
   generalize (renY NFp l.reverse ui x).2 = uy at *
   have hT4 := hH3.appK [AObj.cells y.cs 34] hT3
   have hH4 := hH3.app [AObj.cells y.cs 34]
   have hy1 : (σ3 ++ [AObj.cells y.cs 34])[σ3.length]? = some (AObj.cells y.cs 34) := by simp
   simp (maxDischargeDepth := 16) [zY, symL, Ty.len, Ty.tk, Ty.put, set_last]
   refine hK _ _ ?_; clear hK K
   generalize σ3 ++ [AObj.cells y.cs 34] = σ4 at *
   have a2 := hH4.a2
   obtain ⟨tok', σ5, acc, t1, t2, t3, t4, hap⟩ := app_own (P := Tryz.prog) (M := []) (σ := σ4) (t := 32) (e := 34) (k := 8) (by_ := 152) (es := tyR oi) (fs := [y.cs]) (by kernel_rfl) (by kernel_rfl) (by kernel_rfl) (by kernel_rfl) (by rw [tyR_len, hfl]; exact hT4.t) (tyR_hd _) (by simp [Ty.len]) (by simp only [tyR_len, hfl, List.length_singleton]; omega) (by simp only [tyR_len, hfl, List.length_singleton]; omega)
   have hrow : tyR oi ++ stripRows [y.cs] = tyR (oi ++ [y]) := by rw [tyR_app]; simp [stripRows, Ty.stp, tyR]
   rw [hrow] at hap
   obtain ⟨g1, g2, g3⟩ := hT4.next hH4.s (by rw [List.length_replicate]; exact hH4.lt) t1 t2 t3 t4
   rw [tyR_len, hfl, List.length_singleton] at g1
   have hH5 := hH4.go g2 g3 fun p hp => hT4.gt hp
   have b2 := hH5.a2
   have hH6 := hH5.put [v0, v1, .sl (tyR (oi ++ [y])) tok', v3, v4, v5, v6, v7, v8, v9, v10]
   have hK6 := hH5.putK [v0, v1, .sl (tyR (oi ++ [y])) tok', v3, v4, v5, v6, v7, v8, v9, v10] g1
   refine J.cw (CW.region ?_)
   simp (maxDischargeDepth := 16) [zY, hy1, a2, Ty.len, Ty.tk, Ty.put, hap, b2]
   refine fin tok' _ _ _ hH6 hK6 ?_
   simp [sub, lk]
 · obtain rfl : i = ts.length := by omega
   rw [List.take_length] at hH
   refine JD.seqK fun K hK => J.cw (CW.region ?_)
   simp (maxDischargeDepth := 16) [zY, a0, Nat.not_lt.2 hge]
   refine hK _ _ ?_; clear hK K
   refine JD.cond (t := false) (by simp [zT, zF, lk]) ?_
   refine JD.exit (hR2x _ _ _ (by simp) (hR1 _ _ _ ?_))
   simp only [outOf, if_true]
   refine hKL _ _ ?_
   refine JD.keep [0, 1, 5, 6, 7, 8] fun tm => ?_
   simp only [sel, List.contains_cons, List.contains_nil, Bool.or_false, Nat.reduceBEq, Bool.false_eq_true, if_false, if_true, Bool.or_true, Bool.true_or]
   exact next tok σ2 _ hH
theorem expr9_5 (H : H9K S) {q : Q9} {u : List ByteArray} {σ σ1 : Sto} {P : Nat} {c0 c1 c2 c4 c5 c6 c7 c8 c9 c10 v0 v1 v2 v4 v5 v6 v7 v8 v9 v10 : AV} {ts : List Rhs} {l l2 : List (ByteArray × ByteArray)} (h : W9 q u σ σ1 P 49 [c0, c1, c2, .sl (rhsR ts) .no, c4, c5, c6, c7, c8, c9, c10] [v0, v1, v2, .sl [] .full, v4, v5, v6, v7, v8, v9, v10] 11) (hone : ∀ x ∈ ts, K9 S N 77 Rhs.cs (renR NFp) bR x) (hlen : ts.length ≤ 1000000000) (hl : l.length + (ts.flatMap bR).length ≤ 1000000000) (hu : u.length + (ts.flatMap bR).length ≤ 1000000000) (hb : ∀ s ∈ ts.flatMap bR, s.size ≤ 1000000000)
    {R0 : AExit → List AV → Sto → Prop} (next : ∀ tok σ2 tm, W9 q (foldR (renR NFp l.reverse) u ts).2 σ σ2 P 49 [c0, c1, c2, .sl (rhsR ts) .no, c4, c5, c6, c7, c8, c9, c10] [v0, v1, v2, .sl (rhsR (foldR (renR NFp l.reverse) u ts).1) tok, v4, v5, v6, v7, v8, v9, v10] 11 → JD Tryz.prog (S.E N) [] (tailC 6 expr9B) (fm 162 [(0, .ptr q.rid 0), (1, .sl (bndR l) .no), (5, .ptr P 0), (6, .ptr (P + 1) 0), (7, .ptr (P + 2) 0), (8, .sl (bndR l2) .no)] tm) σ2 R0) (tm : List AV) :
    JD Tryz.prog (S.E N) [] (tailC 5 expr9B) (fm 162 [(0, .ptr q.rid 0), (1, .sl (bndR l) .no), (5, .ptr P 0), (6, .ptr (P + 1) 0), (7, .ptr (P + 2) 0), (8, .sl (bndR l2) .no)] tm) σ1 R0 := by
 have hbl : ∀ u x, (renR NFp l.reverse u x).2.length = u.length + (bR x).length := fun u x => (anew_R l.reverse u x).len
 refine JD.seqK fun KL hKL => ?_
 refine JD.seqK fun K hK => J.cw (CW.region ?_)
 simp (maxDischargeDepth := 16) [zY]
 refine hK _ _ ?_; clear hK K
 refine JD.block (JD.hide fun R1 hR1 => ?_)
 refine JD.loopF (fun p : Nat × Tok × Sto => [(0, .ptr q.rid 0), (1, .sl (bndR l) .no), (5, .ptr P 0), (6, .ptr (P + 1) 0), (7, .ptr (P + 2) 0), (8, .sl (bndR l2) .no), (11, intV p.1)]) (fun p => p.2.2) (fun p => p.1 ≤ ts.length ∧ W9 q (foldR (renR NFp l.reverse) u (ts.take p.1)).2 σ p.2.2 P 49 [c0, c1, c2, .sl (rhsR ts) .no, c4, c5, c6, c7, c8, c9, c10] [v0, v1, v2, .sl (rhsR (foldR (renR NFp l.reverse) u (ts.take p.1)).1) p.2.1, v4, v5, v6, v7, v8, v9, v10] 11 ∧ K9t q P p.2.2 (p.1 * 7) 52 p.2.1) (fun p => ts.length - p.1) (0, .full, σ1) (by simp [sub, lk]) rfl ⟨by simp, by simpa [foldR, rhsR] using h, by simpa using K9t.nil q P σ1 52⟩ ?_
 clear h
 rintro ⟨i, tok, σ2⟩ tm ⟨hi, hH, hT⟩ R2 hR2 hR2x
 dsimp only at hi hH hT hR2 ⊢
 refine JD.seqK fun K3 hK3 => ?_
 have a0 := hH.a0
 rcases Nat.lt_or_ge i ts.length with hlt | hge
 · have ha := rhsR_get hlt
   have hft := foldR_take (renR NFp l.reverse) u hlt
   have hfl : (foldR (renR NFp l.reverse) u (ts.take i)).1.length = i := by rw [foldR_len]; exact List.length_take_of_le hi
   obtain ⟨hle, hmem⟩ := foldR_le hbl u hlt
   have hbs : (bR ts[i]).length ≤ (ts.flatMap bR).length := by have := (flat_take (b := bR) hlt).2; omega
   have hk := hone _ (List.getElem_mem hlt)
   refine JD.seqK fun K hK => J.cw (CW.region ?_)
   simp (maxDischargeDepth := 16) [zY, a0, hlt]
   refine hK _ _ ?_; clear hK K
   refine JD.cond (t := true) (by simp [zT, zF, lk]) ?_
   refine JD.skip (hK3 _ _ ?_)
   refine JD.keep [0, 1, 5, 6, 7, 8, 11] fun tm => ?_
   simp only [sel, List.contains_cons, List.contains_nil, Bool.or_false, Nat.reduceBEq, Bool.false_eq_true, if_false, if_true, Bool.or_true, Bool.true_or]
   refine JD.seqK fun K5 hK5 => JD.block ?_
   have fin : ∀ (y : Rhs) (u2 : List ByteArray) (tok' : Tok) (σ5 : Sto) (fr : List (Nat × AV)) (tm : List AV), foldR (renR NFp l.reverse) u (ts.take (i + 1)) = ((foldR (renR NFp l.reverse) u (ts.take i)).1 ++ [y], u2) → W9 q u2 σ σ5 P 49 [c0, c1, c2, .sl (rhsR ts) .no, c4, c5, c6, c7, c8, c9, c10] [v0, v1, v2, .sl (rhsR ((foldR (renR NFp l.reverse) u (ts.take i)).1 ++ [y])) tok', v4, v5, v6, v7, v8, v9, v10] 11 → K9t q P σ5 ((i + 1) * 7) 52 tok' → sub [(0, .ptr q.rid 0), (1, .sl (bndR l) .no), (5, .ptr P 0), (6, .ptr (P + 1) 0), (7, .ptr (P + 2) 0), (8, .sl (bndR l2) .no), (11, intV i)] fr → K5 (fm 162 fr tm) σ5 := by
    intro y u2 tok' σ5 fr tm e g1 g2 hfr
    rw [fm_sub hfr]
    refine hK5 _ _ (J.cw (CW.region ?_))
    simp (maxDischargeDepth := 16) [zY, wrap_succ (show i ≤ 1000000000000 by omega)]
    refine hR2 _ _ ⟨(i + 1, tok', σ5), _, _, rfl, by simp [sub, lk], rfl, ⟨hlt, ?_, g2⟩, show ts.length - (i + 1) < ts.length - i by omega⟩
    dsimp only
    rw [e]; exact g1
   clear hR2 hR2x hK5
   replace fin := fun tok' σ5 fr tm => fin _ _ tok' σ5 fr tm hft
   generalize ts[i] = x at *
   generalize (foldR (renR NFp l.reverse) u (ts.take i)).2 = ui at *
   generalize (foldR (renR NFp l.reverse) u (ts.take i)).1 = oi at *
   refine JD.seqK fun K hK => JD.region ?_
   simp (maxDischargeDepth := 16) [zY, symL, a0, ha, Rhs.len, Rhs.tk]
   refine (hk q ui l σ2 hH.s (by omega) (by omega) (fun s hs => hb s (hmem s hs))).mono ?_
   rintro r σ3 ⟨rfl, hS3, hF3⟩
   have hH3 := hH.go hS3 hF3 fun p hp => hp.elim
   have hT3 := hT.keep hF3 fun p h => h.elim
   generalize (renR NFp l.reverse ui x).1 = y at *
   generalize (renR NFp l.reverse ui x).2 = uy at *
   have hT4 := hH3.appK [AObj.cells y.cs 52] hT3
   have hH4 := hH3.app [AObj.cells y.cs 52]
   have hy1 : (σ3 ++ [AObj.cells y.cs 52])[σ3.length]? = some (AObj.cells y.cs 52) := by simp
   simp (maxDischargeDepth := 16) [zY, symL, Rhs.len, Rhs.tk, Rhs.put, set_last]
   refine hK _ _ ?_; clear hK K
   generalize σ3 ++ [AObj.cells y.cs 52] = σ4 at *
   have a2 := hH4.a2
   obtain ⟨tok', σ5, acc, t1, t2, t3, t4, hap⟩ := app_own (P := Tryz.prog) (M := []) (σ := σ4) (t := 45) (e := 52) (k := 6) (by_ := 144) (es := rhsR oi) (fs := [y.cs]) (by kernel_rfl) (by kernel_rfl) (by kernel_rfl) (by kernel_rfl) (by rw [rhsR_len, hfl]; exact hT4.t) (rhsR_hd _) (by simp [Rhs.len]) (by simp only [rhsR_len, hfl, List.length_singleton]; omega) (by simp only [rhsR_len, hfl, List.length_singleton]; omega)
   have hrow : rhsR oi ++ stripRows [y.cs] = rhsR (oi ++ [y]) := by rw [rhsR_app]; simp [stripRows, Rhs.stp, rhsR]
   rw [hrow] at hap
   obtain ⟨g1, g2, g3⟩ := hT4.next hH4.s (by rw [List.length_replicate]; exact hH4.lt) t1 t2 t3 t4
   rw [rhsR_len, hfl, List.length_singleton] at g1
   have hH5 := hH4.go g2 g3 fun p hp => hT4.gt hp
   have b2 := hH5.a2
   have hH6 := hH5.put [v0, v1, v2, .sl (rhsR (oi ++ [y])) tok', v4, v5, v6, v7, v8, v9, v10]
   have hK6 := hH5.putK [v0, v1, v2, .sl (rhsR (oi ++ [y])) tok', v4, v5, v6, v7, v8, v9, v10] g1
   refine J.cw (CW.region ?_)
   simp (maxDischargeDepth := 16) [zY, hy1, a2, Rhs.len, Rhs.tk, Rhs.put, hap, b2]
   refine fin tok' _ _ _ hH6 hK6 ?_
   simp [sub, lk]
 · obtain rfl : i = ts.length := by omega
   rw [List.take_length] at hH
   refine JD.seqK fun K hK => J.cw (CW.region ?_)
   simp (maxDischargeDepth := 16) [zY, a0, Nat.not_lt.2 hge]
   refine hK _ _ ?_; clear hK K
   refine JD.cond (t := false) (by simp [zT, zF, lk]) ?_
   refine JD.exit (hR2x _ _ _ (by simp) (hR1 _ _ _ ?_))
   simp only [outOf, if_true]
   refine hKL _ _ ?_
   refine JD.keep [0, 1, 5, 6, 7, 8] fun tm => ?_
   simp only [sel, List.contains_cons, List.contains_nil, Bool.or_false, Nat.reduceBEq, Bool.false_eq_true, if_false, if_true, Bool.or_true, Bool.true_or]
   exact next tok σ2 _ hH
end
end Go.Proofs.YteajcnilihgheaaGreatDoor
