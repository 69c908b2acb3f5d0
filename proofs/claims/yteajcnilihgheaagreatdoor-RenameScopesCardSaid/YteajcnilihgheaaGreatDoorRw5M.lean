/-
 EV: the package rename: within walked.
-/
import Derived.Test.YteajcnilihgheaaGreatDoorSc3M
import Derived.Test.YteajcnilihgheaaGreatDoorRw6M
import Derived.Test.YteajcnilihgheaaGreatDoorTBaseM
namespace Go.Proofs.YteajcnilihgheaaGreatDoor
set_option maxRecDepth 100000
set_option maxHeartbeats 8000000
set_option linter.unusedSimpArgs false
set_option linter.unusedVariables false
section
open Go.RowKit
variable {S : Sp} {N : Nat}
theorem within_j (hc : S.code = codeP Tryz.prog) (hs : S.sp 59 = none) (hb : S.base 59 = none) (hm : S.ms 59 = [23]) (q : RQ) (u u' : List ByteArray) (st : ByteArray → List ByteArray) (l : Bnd) (tk : Tok) (tf : FuncId) (tc : List AV) (V : Nat → Prop) (R : Sto → Prop) (σ : Sto)
    (h : St q u st σ) (hl : l.length ≤ 1000000000) (hu : u.length ≤ 1000000000) (hu' : u'.length ≤ 1000000000) (hh : ∀ s, (st s).length + l.length ≤ u.length)
    (hw : ∀ σ1, St q u (pushN st l) σ1 → Fr q nV σ σ1 → JC Tryz.prog (S.E N) tf tc σ1 fun r σ2 => r = .ret (.tup []) ∧ St q u' (pushN st l) σ2 ∧ Fr q V σ1 σ2 ∧ R σ2) :
    JC Tryz.prog (S.E N) 59 [.ptr q.rid 0, .fn (.func tf) [] tc, .sl (prR l) tk] σ fun r σ' => r = .ret (.tup []) ∧ St q u' st σ' ∧ Fr q V σ σ' ∧ ∃ σ2, R σ2 ∧ St q u' (pushN st l) σ2 ∧ Fr q nV σ2 σ' ∧ Fr q V σ σ2 := by
 refine JC.startG (fn := Tryz.f59) (codeOf hc Tryz.func59 rfl (by kernel_rfl)) rfl hm rfl (zL rfl) fun tm => ?_
 refine JD.hide fun R0 hR0 => ?_
 refine JD.seqK fun KL hKL => ?_
 refine JD.seqK fun KM hKM => ?_
 refine J.cw (CW.region ?_)
 simp (maxDischargeDepth := 16) [zY]
 refine hKM _ _ ?_; clear hKM KM
 have hlen : (prR l).length = l.length := by simp [prR]
 refine J.cw (CW.block (CW.hide fun R1 hR1 => ?_))
 refine CW.loopF (fun p : Nat × Sto => [(0, .ptr q.rid 0), (1, .fn (.func tf) [] tc), (2, .sl (prR l) tk), (10, .sl (prR l) tk), (11, intV l.length), (12, intV p.1)]) (fun p => p.2) (fun p => p.1 ≤ l.length ∧ St q u (pushN st (l.take p.1)) p.2 ∧ Fr q nV σ p.2) (fun p => l.length - p.1) (0, σ) (by simp [sub, lk, hlen]) rfl ⟨by simp, by simpa [pushN_nil] using h, .refl _ _ _⟩ ?_
 rintro ⟨i, σ1⟩ tm ⟨hi, h1, hf⟩
 dsimp only at hi h1 hf ⊢
 refine CW.hide fun R2 hR2 => CW.seqK fun K4 hK4 => CW.region ?_
 rcases Nat.lt_or_ge i l.length with hlt | hge
 · simp (maxDischargeDepth := 16) [zY, hlt]
   refine hK4 _ _ ?_
   refine CW.seqK fun K3 hK3 => ?_
   refine CW.cond (t := true) (by simp [zT, zF, lk]) ?_
   refine CW.skip (hK3 _ _ ?_)
   refine CW.seqK fun K5 hK5 => CW.block ?_
   have ha := prR_get hlt
   have hpt := pushN_take st l hlt
   have hpl : (pushN st (l.take i) l[i].1).length + 1 ≤ u.length := by
    have := pushN_len st (l.take i) l[i].1
    have := hh l[i].1
    rw [List.length_take_of_le (Nat.le_of_lt hlt)] at *
    omega
   refine CW.seqK fun K6 hK6 => CW.region ?_
   simp (maxDischargeDepth := 16) [zY, ha]
   refine hK6 _ _ ?_; clear hK6 K6
   generalize hP : σ1.length = P
   generalize l[i].1 = o at hpt hpl
   generalize l[i].2 = w at hpt
   obtain ⟨tok0, bs1, is0, nx0, hr1, tk0, ii1, ii2, nn1, nn2, hb1, hB1⟩ := h1.get
   have fin : ∀ (σ4 : Sto) (fr : List (Nat × AV)) (tm : List AV) (id' n' : Nat), n' = (pushN st (l.take i) o).length + 1 → P ≤ id' → P ≤ σ4.length → σ4[q.bid]? = some (.map .str (mapPut (.string o) (.asl id' 0 n' 1) bs1)) → σ4[id']? = some (.cells (strC (pushN st (l.take i) o ++ [w])) 9) → (∀ p, p < P → p ≠ q.bid → (∀ n, mapGet (.string o) bs1 ≠ some (.asl p 0 n 1)) → σ4[p]? = σ1[p]?) → sub [(0, .ptr q.rid 0), (1, .fn (.func tf) [] tc), (2, .sl (prR l) tk), (10, .sl (prR l) tk), (11, intV l.length), (12, intV i)] fr → K5 (fm 66 fr tm) σ4 := by
    intro σ4 fr tm id' n' e1 e2 e3 e4 e5 e6 hfr
    obtain ⟨g1, g2⟩ := h1.push hb1 hB1 o w id' n' e1 (by omega) (by omega) e4 e5 (by rw [hP]; exact e6) hpl
    rw [fm_sub hfr]
    refine hK5 _ _ ?_
    refine CW.region ?_
    simp (maxDischargeDepth := 16) [zY, wrap_succ (show i ≤ 1000000000000 by omega)]
    exact hR2 _ _ _ ⟨(i + 1, σ4), _, _, rfl, by simp [sub, lk], rfl, ⟨by show i + 1 ≤ l.length; omega, by show St q u (pushN st (l.take (i + 1))) σ4; rw [hpt]; exact g1, hf.trans0 g2⟩, by show l.length - (i + 1) < l.length - i; omega⟩
   clear hK5 hR2 hpt hh hw h hf tk0 nn2 ii2
   have hrl := (List.getElem?_eq_some_iff.1 hr1).1
   have hbl := (List.getElem?_eq_some_iff.1 hb1).1
   have hne : q.rid ≠ q.bid := fun e => by rw [e, hb1] at hr1; cases hr1
   have r2 : (σ1 ++ [AObj.cells [AV.lit (.string o), AV.lit (.string w)] 141])[q.rid]? = some (.cells [.sl (txtR u) tok0, .mp q.iid, .mp q.nid, .mp q.bid] 99) := by rw [List.getElem?_append_left hrl]; exact hr1
   have b2 : (σ1 ++ [AObj.cells [AV.lit (.string o), AV.lit (.string w)] 141])[q.bid]? = some (.map .str bs1) := by rw [List.getElem?_append_left hbl]; exact hb1
   have p2 : (σ1 ++ [AObj.cells [AV.lit (.string o), AV.lit (.string w)] 141])[P]? = some (AObj.cells [AV.lit (.string o), AV.lit (.string w)] 141) := by rw [← hP]; simp
   have l2 : (σ1 ++ [AObj.cells [AV.lit (.string o), AV.lit (.string w)] 141]).length = P + 1 := by simp [hP]
   generalize hσ2 : σ1 ++ [AObj.cells [AV.lit (.string o), AV.lit (.string w)] 141] = σ2 at *
   have k2 : ∀ p, p < P → σ2[p]? = σ1[p]? := fun p hp => by rw [← hσ2, List.getElem?_append_left (by omega)]
   generalize hS1 : pushN st (l.take i) = st1 at *
   rcases hB1.g o with ⟨g1, g2⟩ | ⟨id, cs, g1, g2, g3⟩
   · have hbs := fun tm ds ty po af gu x hx => bs_M (σ := σ2) (w := w) tm ds ty po af gu x hx
     have hap := fun tm ds ty po af gu x y hx hy => app_M0 (σ := σ2 ++ [.cells [.lit (.string w)] 9]) (B := σ2.length) (c := .lit (.string w)) (by simp) tm ds ty po af gu x y hx hy
     have b3 : ((σ2 ++ [.cells [.lit (.string w)] 9]) ++ [.cells [.lit (.string w)] 9])[q.bid]? = some (.map .str bs1) := by rw [List.getElem?_append_left (by simp; omega), List.getElem?_append_left (by omega)]; exact b2
     generalize hσ3 : σ2 ++ [AObj.cells [.lit (.string w)] 9] = σ3 at hbs hap b3
     generalize hσ4 : σ3 ++ [AObj.cells [.lit (.string w)] 9] = σ4 at hap b3
     have l3 : σ3.length = P + 1 + 1 := by rw [← hσ3]; simp [l2]
     refine CW.draw (by kernel_rfl) ?_
     simp (maxDischargeDepth := 16) [zY, r2, b2, p2, lookA, g1, hbs, hap, b3, AV.notTup]
     refine ⟨drawOk_ren [q.rid, q.bid, P, σ2.length, σ3.length] (by rw [l2, l3]; simp; omega) [.pure, .pure, .pure, .reads 0, .pure, .reads 2, .pure, .pure, .pure, .reads 0, .pure, .reads 2, .reads 1, .pure, .reads 2, .news 3, .grows none 4, .writes 1] (by kernel_rfl) (by kernel_rfl), ?_⟩
     have k4 : ∀ p, p < P → σ4[p]? = σ1[p]? := fun p hp => by rw [← hσ4, List.getElem?_append_left (by omega), ← hσ3, List.getElem?_append_left (by omega), k2 p hp]
     have l4 : σ4.length = P + 3 := by rw [← hσ4]; simp; omega
     have n4 : σ4[σ3.length]? = some (.cells [.lit (.string w)] 9) := by rw [← hσ4]; simp
     refine fin _ _ _ σ3.length 1 (by rw [g2]; rfl) (by omega) (by simp; omega) (by rw [List.getElem?_set_self (by omega)]) (by rw [List.getElem?_set_ne (by omega), n4, g2]; rfl) (fun p hp hpb _ => by rw [List.getElem?_set_ne hpb.symm]; exact k4 p hp) (by simp [sub, lk])
   · have lid := (List.getElem?_eq_some_iff.1 g2).1
     have hnl : (st1 o).length ≤ cs.length := by have := congrArg List.length g3; rw [List.length_take] at this; simp only [strC, List.length_map] at this; omega
     have hnb : (st1 o).length ≤ 1000000000 := by omega
     have hib : id ≠ q.bid := fun e => by rw [e, hb1] at g2; cases g2
     have hir : id ≠ q.rid := fun e => by rw [e, hr1] at g2; cases g2
     have hbs := fun tm ds ty po af gu x hx => bs_M (σ := σ2) (w := w) tm ds ty po af gu x hx
     have hap := fun tm ds ty po af gu x y hx hy => app_M1 (σ := σ2 ++ [.cells [.lit (.string w)] 9]) (B := σ2.length) (id := id) (n := (st1 o).length) (c := .lit (.string w)) (cs := cs) (by simp) (by rw [List.getElem?_append_left (by omega), k2 _ (by omega)]; exact g2) hnl hnb (chunks_one _ _ hnl).2 tm ds ty po af gu x y hx hy
     have e5 : (chunks 1 (st1 o).length cs).flatten ++ [AV.lit (.string w)] = strC (st1 o ++ [w]) := by rw [(chunks_one _ _ hnl).1, g3]; simp [strC]
     simp only [e5] at hap
     have b3 : ((σ2 ++ [AObj.cells [.lit (.string w)] 9]).set id AObj.dead ++ [AObj.cells (strC (st1 o ++ [w])) 9])[q.bid]? = some (.map .str bs1) := by rw [List.getElem?_append_left (by simp; omega), List.getElem?_set_ne hib, List.getElem?_append_left (by omega)]; exact b2
     generalize hσ3 : σ2 ++ [AObj.cells [.lit (.string w)] 9] = σ3 at hbs hap b3
     generalize hσ4 : σ3.set id AObj.dead ++ [AObj.cells (strC (st1 o ++ [w])) 9] = σ4 at hap b3
     have l3 : σ3.length = P + 1 + 1 := by rw [← hσ3]; simp [l2]
     refine CW.draw (by kernel_rfl) ?_
     simp (maxDischargeDepth := 16) [zY, r2, b2, p2, lookA, g1, hbs, hap, b3, AV.notTup]
     refine ⟨drawOk_ren [q.rid, q.bid, P, σ2.length, σ3.length, id] (by rw [l2, l3]; simp; omega) [.pure, .pure, .pure, .reads 0, .pure, .reads 2, .pure, .pure, .pure, .reads 0, .pure, .reads 2, .reads 1, .pure, .reads 2, .news 3, .grows (some 5) 4, .writes 1] (by kernel_rfl) (by kernel_rfl), ?_⟩
     have k4 : ∀ p, p < P → p ≠ id → σ4[p]? = σ1[p]? := fun p hp hpi => by rw [← hσ4, List.getElem?_append_left (by simp; omega), List.getElem?_set_ne hpi.symm, ← hσ3, List.getElem?_append_left (by omega), k2 p hp]
     have l4 : σ4.length = P + 3 := by rw [← hσ4]; simp; omega
     have n4 : σ4[σ3.length]? = some (.cells (strC (st1 o ++ [w])) 9) := by rw [← hσ4, List.getElem?_append_right (by simp)]; simp
     refine fin _ _ _ σ3.length ((st1 o).length + 1) rfl (by omega) (by simp; omega) (by rw [List.getElem?_set_self (by omega)]) (by rw [List.getElem?_set_ne (by omega), n4]) (fun p hp hpb hno => by rw [List.getElem?_set_ne hpb.symm]; exact k4 p hp fun e => hno _ (e ▸ g1)) (by simp [sub, lk])
 · simp (maxDischargeDepth := 16) [zY, Nat.not_lt.2 hge]
   refine hK4 _ _ ?_
   refine CW.seqK fun K3 hK3 => ?_
   refine CW.cond (t := false) (by simp [zT, zF, lk]) ?_
   refine CW.exit (hR2 _ _ _ (hR1 _ _ _ ?_))
   simp only [outOf, if_true]
   refine hKL _ _ ?_
   rw [List.take_of_length_le hge] at h1
   refine JD.seqK fun K5 hK5 => JD.region ?_
   simp (maxDischargeDepth := 16) [zY, symL]
   refine (hw σ1 h1 hf).mono ?_
   rintro r σ2 ⟨rfl, h2, hf2, hR⟩
   simp (maxDischargeDepth := 16) [zY, symL]
   refine hK5 _ _ ?_; clear hK5 K5
   refine JD.seqK fun K hK => J.cw (CW.region ?_)
   simp (maxDischargeDepth := 16) [zY, hlen]
   refine hK _ _ ?_; clear hK K
   have hpl := popN_end st l (j := l.length) (Nat.le_refl _)
   refine J.cw (CW.block (CW.hide fun R1 hR1 => ?_))
   refine CW.loopF (fun p : Nat × Sto => [(0, .ptr q.rid 0), (36, .sl (prR l) tk), (37, intV l.length), (38, intV p.1)]) (fun p => p.2) (fun p => p.1 ≤ l.length ∧ St q u' (popN st l p.1) p.2 ∧ Fr q nV σ2 p.2) (fun p => l.length - p.1) (0, σ2) (by simp [sub, lk, hlen]) rfl ⟨by simp, by simpa [popN_zero] using h2, .refl _ _ _⟩ ?_
   rintro ⟨j, σ3⟩ tm ⟨hj, h3, hf3⟩
   dsimp only at hj h3 hf3 ⊢
   refine CW.hide fun R2 hR2 => CW.seqK fun K4 hK4 => CW.region ?_
   rcases Nat.lt_or_ge j l.length with hlt | hge
   · simp (maxDischargeDepth := 16) [zY, hlt]
     refine hK4 _ _ ?_
     refine CW.seqK fun K3 hK3 => ?_
     refine CW.cond (t := true) (by simp [zT, zF, lk]) ?_
     refine CW.skip (hK3 _ _ ?_)
     refine CW.seqK fun K5 hK5 => CW.block ?_
     have ha := prR_get hlt
     obtain ⟨x, hx1, hx2⟩ := popN_step st l hlt
     refine CW.seqK fun K6 hK6 => CW.region ?_
     simp (maxDischargeDepth := 16) [zY, ha]
     refine hK6 _ _ ?_; clear hK6 K6
     generalize hP : σ3.length = P
     generalize l[j].1 = o at hx1 hx2
     generalize l[j].2 = w
     obtain ⟨tok0, bs1, is0, nx0, hr1, tk0, ii1, ii2, nn1, nn2, hb1, hB1⟩ := h3.get
     obtain ⟨id, cs, e1, e2, e3, e4, e5⟩ := h3.pop hb1 hB1 o x _ hx1
     rw [← hx2] at e5
     have hpu : (popN st l (j + 1) o).length + 1 ≤ u'.length := by have := h3.h o; rw [hx1, List.length_append] at this; exact this
     generalize hn : (popN st l (j + 1) o).length = n at *
     have hrl := (List.getElem?_eq_some_iff.1 hr1).1
     have hbl := (List.getElem?_eq_some_iff.1 hb1).1
     have hne : q.rid ≠ q.bid := fun e => by rw [e, hb1] at hr1; cases hr1
     have r2 : (σ3 ++ [AObj.cells [AV.lit (.string o), AV.lit (.string w)] 141])[q.rid]? = some (.cells [.sl (txtR u') tok0, .mp q.iid, .mp q.nid, .mp q.bid] 99) := by rw [List.getElem?_append_left hrl]; exact hr1
     have b2 : (σ3 ++ [AObj.cells [AV.lit (.string o), AV.lit (.string w)] 141])[q.bid]? = some (.map .str bs1) := by rw [List.getElem?_append_left hbl]; exact hb1
     have p2 : (σ3 ++ [AObj.cells [AV.lit (.string o), AV.lit (.string w)] 141])[P]? = some (AObj.cells [AV.lit (.string o), AV.lit (.string w)] 141) := by rw [← hP]; simp
     have l2 : (σ3 ++ [AObj.cells [AV.lit (.string o), AV.lit (.string w)] 141]).length = P + 1 := by simp [hP]
     generalize hσ4 : σ3 ++ [AObj.cells [AV.lit (.string o), AV.lit (.string w)] 141] = σ4 at *
     have k4 : ∀ p, p < P → σ4[p]? = σ3[p]? := fun p hp => by rw [← hσ4, List.getElem?_append_left (by omega)]
     have hwr : IntKind.i64.wrap (n : Int) = (n : Int) := IntWalk.i64_in _ ⟨by omega, by omega⟩
     have hn1 : (n : Int) ≤ (n : Int) + 1 := by omega
     refine CW.draw (by kernel_rfl) ?_
     simp (maxDischargeDepth := 16) [zY, r2, b2, p2, lookA, e1, hwr, hn1, AV.notTup]
     refine ⟨drawOk_ren [q.rid, q.bid, P] (by have := (show q.rid < P by omega); have := (show q.bid < P by omega); simp; omega) [.pure, .pure, .pure, .reads 0, .pure, .reads 2, .pure, .pure, .pure, .reads 0, .pure, .reads 2, .reads 1, .pure, .pure, .pure, .reads 0, .pure, .reads 2, .reads 1, .pure, .pure, .pure, .writes 1] (by kernel_rfl) (by kernel_rfl), ?_⟩
     obtain ⟨g1, g2⟩ := e5 (σ4.set q.bid (.map .str (mapPut (.string o) (.asl id 0 n 1) bs1))) (by simp; omega) (fun p hp hpb => by rw [List.getElem?_set_ne hpb.symm]; exact k4 p (by omega)) (by rw [List.getElem?_set_self (by omega)])
     refine hK5 _ _ ?_
     refine CW.region ?_
     simp (maxDischargeDepth := 16) [zY, wrap_succ (show j ≤ 1000000000000 by omega)]
     exact hR2 _ _ _ ⟨(j + 1, _), _, _, rfl, by simp [sub, lk], rfl, ⟨by show j + 1 ≤ l.length; omega, g1, hf3.trans0 g2⟩, by show l.length - (j + 1) < l.length - j; omega⟩
   · simp (maxDischargeDepth := 16) [zY, Nat.not_lt.2 hge]
     refine hK4 _ _ ?_
     refine CW.seqK fun K3 hK3 => ?_
     refine CW.cond (t := false) (by simp [zT, zF, lk]) ?_
     refine CW.exit (hR2 _ _ _ (hR1 _ _ _ ?_))
     simp only [outOf, if_true]
     obtain rfl : j = l.length := by omega
     rw [hpl] at h3
     exact hR0 _ _ _ ⟨.tup [], by simp [zA, omap], rfl, h3, (hf.none.trans0 hf2).trans0 hf3.none, σ2, hR, h2, hf3, hf.none.trans0 hf2⟩
end
section
open Go.RowKit
variable {S : Sp} {N : Nat}
theorem fresh_c (H : FrH S) {q : RQ} {u : List ByteArray} {st : ByteArray → List ByteArray} {σ : Sto} (h : St q u st σ) (s : ByteArray) (hl : u.length ≤ 1000000000) (hs : s.size ≤ 1000000000) (hN : 0 < N) :
    CallW Tryz.prog (S.E N) 58 [.ptr q.rid 0, .lit (.string s)] σ fun r σ' => r = .ret (.lit (.string (freshB u s))) ∧ St q (u ++ [freshB u s]) st σ' ∧ Fr q nV σ σ' := by
 obtain ⟨tok, hA⟩ := h.a
 refine (fresh_ev (N := N) H ⟨q.rid, q.iid, q.nid, q.bid, tok, u⟩ s σ hA hl hs hN).mono ?_
 rintro r σ' ⟨rfl, tok', h1, h2, h3⟩
 obtain ⟨g1, g2⟩ := h.names (m := ⟨q.rid, q.iid, q.nid, q.bid, tok, u⟩) rfl hA tok' h1 h2 h3 (by simp)
 exact ⟨rfl, g1, g2⟩
def foldR {T : Type} (ren : List ByteArray → T → T × List ByteArray) (u : List ByteArray) : List T → List T × List ByteArray
 | [] => ([], u)
 | x :: l => ((ren u x).1 :: (foldR ren (ren u x).2 l).1, (foldR ren (ren u x).2 l).2)
theorem foldR_app {T : Type} (ren : List ByteArray → T → T × List ByteArray) : ∀ (a b : List T) (u : List ByteArray), foldR ren u (a ++ b) = ((foldR ren u a).1 ++ (foldR ren (foldR ren u a).2 b).1, (foldR ren (foldR ren u a).2 b).2)
 | [], b, u => rfl
 | x :: a, b, u => by rw [List.cons_append, foldR, foldR_app ren a b]; rfl
theorem foldR_take {T : Type} (ren : List ByteArray → T → T × List ByteArray) (u : List ByteArray) {a : List T} {i : Nat} (h : i < a.length) : foldR ren u (a.take (i + 1)) = ((foldR ren u (a.take i)).1 ++ [(ren (foldR ren u (a.take i)).2 a[i]).1], (ren (foldR ren u (a.take i)).2 a[i]).2) := by
 rw [List.take_succ_eq_append_getElem h, foldR_app]; rfl
theorem foldR_len {T : Type} (ren : List ByteArray → T → T × List ByteArray) : ∀ (a : List T) (u : List ByteArray), (foldR ren u a).1.length = a.length
 | [], u => rfl
 | x :: a, u => by rw [foldR, List.length_cons, foldR_len ren a, List.length_cons]
theorem foldR_u {T : Type} {ren : List ByteArray → T → T × List ByteArray} {b : T → List ByteArray} (hb : ∀ u x, (ren u x).2.length = u.length + (b x).length) : ∀ (a : List T) (u : List ByteArray), (foldR ren u a).2.length = u.length + (a.flatMap b).length
 | [], u => rfl
 | x :: a, u => by rw [foldR, foldR_u hb a, hb, List.flatMap_cons, List.length_append]; omega
theorem foldR_le {T : Type} {ren : List ByteArray → T → T × List ByteArray} {b : T → List ByteArray} (hb : ∀ u x, (ren u x).2.length = u.length + (b x).length) {a : List T} (u : List ByteArray) {i : Nat} (h : i < a.length) : (foldR ren u (a.take i)).2.length + (b a[i]).length ≤ u.length + (a.flatMap b).length ∧ ∀ s ∈ b a[i], s ∈ a.flatMap b := by
 have e : a = a.take i ++ a[i] :: a.drop (i + 1) := by rw [← List.drop_eq_getElem_cons h, List.take_append_drop]
 refine ⟨?_, fun s hs => List.mem_flatMap.2 ⟨_, List.getElem_mem h, hs⟩⟩
 rw [foldR_u hb]
 have : (a.flatMap b).length = ((a.take i).flatMap b).length + (b a[i]).length + ((a.drop (i + 1)).flatMap b).length := by
  conv => lhs; rw [e]
  rw [List.flatMap_append, List.length_append, List.flatMap_cons, List.length_append]
  omega
 omega
def OneJ (S : Sp) (N : Nat) (f : FuncId) {T : Type} (cs : T → List AV) (ren : Bnd → List ByteArray → T → T × List ByteArray) (b : T → List ByteArray) (x : T) : Prop :=
 ∀ (q : RQ) (u : List ByteArray) (st : ByteArray → List ByteArray) (l : Bnd) (σ : Sto), St q u st σ → Top l st → u.length + (b x).length ≤ 1000000000 → (∀ s ∈ b x, s.size ≤ 1000000000) →
  JC Tryz.prog (S.E N) f [.ptr q.rid 0, .agg (cs x)] σ fun r σ' => r = .ret (.agg (cs (ren l u x).1)) ∧ St q (ren l u x).2 st σ' ∧ Fr q nV σ σ'
theorem renYs_f (l : Bnd) : ∀ (a : List Ty) (u : List ByteArray), renYs NFp l u a = foldR (renY NFp l) u a
 | [], u => by rw [renYs]; rfl
 | x :: a, u => by rw [renYs, foldR, renYs_f l a]
theorem renEs_f (l : Bnd) : ∀ (a : List Exp) (u : List ByteArray), renEs NFp l u a = foldR (renE NFp l) u a
 | [], u => by rw [renEs]; rfl
 | x :: a, u => by rw [renEs, foldR, renEs_f l a]
theorem renRs_f (l : Bnd) : ∀ (a : List Rhs) (u : List ByteArray), renRs NFp l u a = foldR (renR NFp l) u a
 | [], u => by rw [renRs]; rfl
 | x :: a, u => by rw [renRs, foldR, renRs_f l a]
theorem renMs_f (l : Bnd) : ∀ (a : List Arm) (u : List ByteArray), renMs NFp l u a = foldR (renM NFp l) u a
 | [], u => by rw [renMs]; rfl
 | x :: a, u => by rw [renMs, foldR, renMs_f l a]
theorem bYs_f : ∀ a : List Ty, bYs a = a.flatMap bY
 | [] => by rw [bYs]; rfl
 | x :: a => by rw [bYs, List.flatMap_cons, bYs_f a]
theorem bEs_f : ∀ a : List Exp, bEs a = a.flatMap bE
 | [] => by rw [bEs]; rfl
 | x :: a => by rw [bEs, List.flatMap_cons, bEs_f a]
theorem bRs_f : ∀ a : List Rhs, bRs a = a.flatMap bR
 | [] => by rw [bRs]; rfl
 | x :: a => by rw [bRs, List.flatMap_cons, bRs_f a]
theorem bMs_f : ∀ a : List Arm, bMs a = a.flatMap bM
 | [] => by rw [bMs]; rfl
 | x :: a => by rw [bMs, List.flatMap_cons, bMs_f a]
theorem Anew.len {u u' b b0 : List ByteArray} (h : Anew u u' b b0) : u'.length = u.length + b0.length := by rw [h.1, List.length_append, h.2.1]
structure Grow (q : RQ) (σ0 σ : Sto) (m : Nat) (e : TypeId) (tok : Tok) : Prop where
 t : TokS σ m e tok
 o : ∀ p, tok = .own p → ¬ Own q σ p ∧ σ0.length ≤ p
theorem Grow.nil (q : RQ) (σ0 σ : Sto) (e : TypeId) : Grow q σ0 σ 0 e .full := ⟨.inl ⟨rfl, rfl⟩, fun p h => by cases h⟩
theorem Grow.keep {q : RQ} {V : Nat → Prop} {σ0 σ σ' : Sto} {m : Nat} {e : TypeId} {tok : Tok} (h : Grow q σ0 σ m e tok) (hf : Fr q V σ σ') (hV : ∀ p, V p → tok ≠ .own p) : Grow q σ0 σ' m e tok := by
 refine ⟨?_, fun p hp => ?_⟩
 · rcases h.t with g | ⟨i, e1, e2⟩
   · exact .inl g
   · have hl := (List.getElem?_eq_some_iff.1 e2).1
     exact .inr ⟨i, e1, by rw [hf.keep i hl (h.o i e1).1 fun v => hV i v e1]; exact e2⟩
 · have h1 := h.o p hp
   rcases h.t with ⟨g, _⟩ | ⟨i, e1, e2⟩
   · rw [g] at hp; cases hp
   · rw [e1] at hp
     cases hp
     exact ⟨hf.not h1.1 (List.getElem?_eq_some_iff.1 e2).1, h1.2⟩
theorem Grow.next {q : RQ} {u : List ByteArray} {st : ByteArray → List ByteArray} {σ0 σ σ' : Sto} {m m' : Nat} {e : TypeId} {tok tok' : Tok} (h : Grow q σ0 σ m e tok) (hs : St q u st σ) (hl0 : σ0.length ≤ σ.length) (ht : TokS σ' m' e tok') (hl : σ.length ≤ σ'.length) (hk : ∀ p, p < σ.length → tok ≠ .own p → σ'[p]? = σ[p]?) (ho : ∀ i, tok' = .own i → tok = .own i ∨ σ.length ≤ i) :
    Grow q σ0 σ' m' e tok' ∧ St q u st σ' ∧ Fr q (fun p => tok = .own p) σ σ' := by
 have hown : ∀ p, Own q σ p → σ'[p]? = σ[p]? := fun p hp => hk p (hs.lt hp) fun e => (h.o p e).1 hp
 refine ⟨⟨ht, fun p hp => ?_⟩, hs.keep hown, hl, fun p hp _ hv => hk p hp hv, fun p hp => .inl ((own_keep hown p).1 hp)⟩
 rcases ho p hp with g | g
 · exact ⟨fun x => (h.o p g).1 ((own_keep hown p).1 x), (h.o p g).2⟩
 · exact ⟨fun x => by have := hs.lt ((own_keep hown p).1 x); omega, by omega⟩
end
end Go.Proofs.YteajcnilihgheaaGreatDoor
