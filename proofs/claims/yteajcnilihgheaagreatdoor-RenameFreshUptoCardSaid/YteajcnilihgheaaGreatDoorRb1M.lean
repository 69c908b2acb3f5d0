/-
 EV: the statements of layer 19: the names that are bound, in order: parameters, types.
-/
import Derived.Test.YteajcnilihgheaaGreatDoorRw15M
namespace Go.Proofs.YteajcnilihgheaaGreatDoor
set_option maxRecDepth 100000
set_option maxHeartbeats 8000000
set_option linter.unusedSimpArgs false
set_option linter.unusedVariables false
section
open Go.RowKit
variable {S : Sp} {N : Nat}
structure Gw (σ : Sto) (tok : Tok) (σ' : Sto) (m : Nat) (tok' : Tok) : Prop where
 t : TokS σ' m 9 tok'
 len : σ.length ≤ σ'.length
 keep : ∀ p, p < σ.length → tok ≠ .own p → σ'[p]? = σ[p]?
 own : ∀ i, tok' = .own i → tok = .own i ∨ σ.length ≤ i
theorem Gw.refl {σ : Sto} {m : Nat} {tok : Tok} (h : TokS σ m 9 tok) : Gw σ tok σ m tok := ⟨h, Nat.le_refl _, fun _ _ _ => rfl, fun i e => .inl e⟩
theorem Gw.trans {σ σ1 σ2 : Sto} {m1 m2 : Nat} {tok tok1 tok2 : Tok} (h : Gw σ tok σ1 m1 tok1) (g : Gw σ1 tok1 σ2 m2 tok2) : Gw σ tok σ2 m2 tok2 := by
 have hl := h.len
 refine ⟨g.t, Nat.le_trans h.len g.len, fun p hp hn => ?_, fun i e => ?_⟩
 · rw [g.keep p (by omega) fun e => ?_, h.keep p hp hn]
   rcases h.own p e with e | e
   · exact hn e
   · omega
 · rcases g.own i e with e | e
   · exact h.own i e
   · exact .inr (by omega)
theorem Gw.app {σ : Sto} {m : Nat} {tok : Tok} (h : TokS σ m 9 tok) (l : Sto) : Gw σ tok (σ ++ l) m tok := by
 refine ⟨?_, by simp, fun p hp _ => List.getElem?_append_left hp, fun i e => .inl e⟩
 rcases h with g | ⟨i, e1, e2⟩
 · exact .inl g
 · exact .inr ⟨i, e1, (st_old (List.getElem?_eq_some_iff.1 e2).1).trans e2⟩
theorem Gw.get {σ σ' : Sto} {m m0 : Nat} {tok tok' : Tok} (h : Gw σ tok σ' m tok') (h0 : TokS σ m0 9 tok) {p : Nat} {cs : List AV} {T : TypeId} (ho : σ[p]? = some (.cells cs T)) : σ'[p]? = some (.cells cs T) := by
 rw [h.keep p (List.getElem?_eq_some_iff.1 ho).1 (h0.ne ho fun m e => by cases e)]; exact ho
theorem app_txt {σ : Sto} {o : List ByteArray} {tok : Tok} (h : TokS σ o.length 9 tok) (l : List ByteArray) (hl : o.length + l.length ≤ 1000000000) :
    ∃ t' σ' acc, Gw σ tok σ' (o.length + l.length) t' ∧ ∀ (tm : List AV) (ds : Option Tmp) (ty : TypeId) (po : String) (af : Array Edge) (gu : Option (Nat × Bool)) (x y : Operand) (tk : Tok), evx tm x = some (.sl (txtR o) tok) → evx tm y = some (.sl (txtR l) tk) →
     evStep Tryz.prog [] (evx tm) σ ⟨ds, .call ⟨.builtin .append, #[x, y], #[23, 23]⟩, ty, po, af, gu⟩ = some (.val (.sl (txtR (o ++ l)) t') σ' acc) := by
 obtain ⟨t', σ', acc, t1, t2, t3, t4, hap⟩ := app_own (P := Tryz.prog) (M := []) (σ := σ) (t := 23) (e := 9) (k := 0) (by_ := 16) (es := txtR o) (fs := txtR l) (by kernel_rfl) (by kernel_rfl) (by kernel_rfl) (by kernel_rfl) (by simpa using h) (txtR_hd _) (txtR_hd _) (by simp only [txtR_len]; omega) (by simp only [txtR_len]; omega)
 refine ⟨t', σ', acc, ⟨by simpa using t1, t2, t3, t4⟩, ?_⟩
 rw [show txtR o ++ stripRows (txtR l) = txtR (o ++ l) by rw [txtR_app]; congr 1; exact txtR_stp l] at hap
 exact hap
def TJ (S : Sp) (N : Nat) (l : List Ty) : Prop := ∀ (o : List ByteArray) (tok tk : Tok) (σ : Sto), TokS σ o.length 9 tok → o.length + (bYs l).length ≤ 1000000000 → JC Tryz.prog (S.E N) 35 [.sl (txtR o) tok, .sl (tyR l) tk] σ fun r σ' => ∃ tok', r = .ret (.sl (txtR (o ++ bYs l)) tok') ∧ Gw σ tok σ' (o.length + (bYs l).length) tok'
def PJ (S : Sp) (N : Nat) (l : List Prm) : Prop := ∀ (o : List ByteArray) (tok tk : Tok) (σ : Sto), TokS σ o.length 9 tok → o.length + (bPs l).length ≤ 1000000000 → JC Tryz.prog (S.E N) 34 [.sl (txtR o) tok, .sl (prmR l) tk] σ fun r σ' => ∃ tok', r = .ret (.sl (txtR (o ++ bPs l)) tok') ∧ Gw σ tok σ' (o.length + (bPs l).length) tok'
theorem bPs_f : ∀ a : List Prm, bPs a = a.flatMap bP
 | [] => by rw [bPs]; rfl
 | x :: a => by rw [bPs, List.flatMap_cons, bPs_f a]
theorem flat_take {T : Type} {b : T → List ByteArray} {a : List T} {i : Nat} (h : i < a.length) : (a.take (i + 1)).flatMap b = (a.take i).flatMap b ++ b a[i] ∧ ((a.take i).flatMap b).length + (b a[i]).length ≤ (a.flatMap b).length := by
 have e : a = a.take i ++ a[i] :: a.drop (i + 1) := by rw [← List.drop_eq_getElem_cons h, List.take_append_drop]
 refine ⟨by rw [List.take_succ_eq_append_getElem h, List.flatMap_append]; simp, ?_⟩
 have : (a.flatMap b).length = ((a.take i).flatMap b).length + (b a[i]).length + ((a.drop (i + 1)).flatMap b).length := by
  conv => lhs; rw [e]
  rw [List.flatMap_append, List.length_append, List.flatMap_cons, List.length_append]
  omega
 omega
theorem types_j (hc : S.code = codeP Tryz.prog) (hm : S.ms 35 = []) (l : List Ty) (hlen : l.length ≤ 1000000000) (ih : ∀ fn st rf ps rs, Ty.mk fn st rf ps rs ∈ l → PJ S N ps ∧ TJ S N rs) : TJ S N l := by
 intro o tok tk σ ht hl
 rw [bYs_f] at hl ⊢
 refine JC.startG (fn := Tryz.f35) (codeOf hc Tryz.func35 rfl (by kernel_rfl)) rfl hm rfl (zL rfl) fun tm => ?_
 refine JD.hide fun R0 hR0 => ?_
 refine JD.seqK fun K hK => J.cw (CW.region ?_)
 simp (maxDischargeDepth := 16) [zY]
 refine hK _ _ ?_; clear hK K
 refine JD.seqK fun KL hKL => ?_
 refine JD.seqK fun K hK => J.cw (CW.region ?_)
 simp (maxDischargeDepth := 16) [zY]
 refine hK _ _ ?_; clear hK K
 refine JD.block (JD.hide fun R1 hR1 => ?_)
 refine JD.loopF (fun p : Nat × Tok × Sto => [(0, .sl (txtR (o ++ (l.take p.1).flatMap bY)) p.2.1), (1, .sl (tyR l) tk), (5, intV p.1)]) (fun p => p.2.2) (fun p => p.1 ≤ l.length ∧ Gw σ tok p.2.2 (o.length + ((l.take p.1).flatMap bY).length) p.2.1) (fun p => l.length - p.1) (0, tok, σ) (by simp [sub, lk]) rfl ⟨by simp, by simpa using Gw.refl ht⟩ ?_
 rintro ⟨i, tok1, σ1⟩ tm ⟨hi, hG⟩ R2 hR2 hR2x
 dsimp only at hi hG hR2 ⊢
 refine JD.seqK fun K3 hK3 => ?_
 rcases Nat.lt_or_ge i l.length with hlt | hge
 · have ha := tyR_get hlt
   have hmem : l[i] ∈ l := List.getElem_mem hlt
   obtain ⟨hf1, hf2⟩ := flat_take (b := bY) hlt
   refine JD.seqK fun K hK => J.cw (CW.region ?_)
   simp (maxDischargeDepth := 16) [zY, hlt]
   refine hK _ _ ?_; clear hK K
   refine JD.cond (t := true) (by simp [zT, zF, lk]) ?_
   refine JD.skip (hK3 _ _ ?_)
   refine JD.seqK fun K5 hK5 => JD.block ?_
   have fin : ∀ (tok2 : Tok) (σ2 : Sto) (fr : List (Nat × AV)) (tm : List AV), Gw σ1 tok1 σ2 (o.length + ((l.take (i + 1)).flatMap bY).length) tok2 → sub [(0, .sl (txtR (o ++ (l.take (i + 1)).flatMap bY)) tok2), (1, .sl (tyR l) tk), (5, intV i)] fr → K5 (fm 31 fr tm) σ2 := by
    intro tok2 σ2 fr tm hG2 hfr
    rw [fm_sub hfr]
    refine hK5 _ _ (J.cw (CW.region ?_))
    simp (maxDischargeDepth := 16) [zY, wrap_succ (show i ≤ 1000000000000 by omega)]
    exact hR2 _ _ ⟨(i + 1, tok2, σ2), _, _, rfl, by simp [sub, lk], rfl, ⟨hlt, hG.trans hG2⟩, show l.length - (i + 1) < l.length - i by omega⟩
   rw [hf1] at fin
   generalize (l.take i).flatMap bY = b at *
   generalize l[i] = t at *
   obtain ⟨fn, st, ⟨rfk, rfnm, rfng, rfdg, rfks⟩, ps, rs⟩ := t
   obtain ⟨hp, hr⟩ := ih _ _ _ _ _ hmem
   simp only [Ty.cs] at ha
   cases fn with
   | true =>
    rw [show bY (.mk true st (.mk rfk rfnm rfng rfdg rfks) ps rs) = bPs ps ++ bYs rs by rw [bY]; rfl] at fin hf2
    simp only [List.length_append] at hf2 fin
    refine JD.seqK fun K hK => J.cw (CW.region ?_)
    simp (maxDischargeDepth := 16) [zY, ha]
    refine hK _ _ ?_; clear hK K
    refine JD.cond (t := true) (by simp [zT, zF, lk]) ?_
    refine JD.draw1 [0, 1, 2, 3, 4, 5, 7, 8, 9, 10, 11, 6, 12, 13] [6, 12] [] (by simp) [.pure, .pure, .pure, .pure, .pure, .pure, .any, .pure, .pure, .pure, .pure, .pure, .any, .any] [] (by kernel_rfl) ?_
    simp (maxDischargeDepth := 16) [zY, symD, ha]
    refine (hp (o ++ b) tok1 .no σ1 (by simpa using hG.t) (by rw [List.length_append]; omega)).mono ?_
    rintro r σ2 ⟨tok2, rfl, hG2⟩
    simp (maxDischargeDepth := 16) [zY, symD, all_nil]
    have hG2t := hG2.t
    refine (hr (o ++ (b ++ bPs ps)) tok2 .no σ2 (by simpa [Nat.add_assoc] using hG2t) (by simp only [List.length_append]; omega)).mono ?_
    rintro r σ3 ⟨tok3, rfl, hG3⟩
    simp (maxDischargeDepth := 16) [zY, symD, all_nil]
    refine fin tok3 σ3 _ _ ?_ (by simp [sub, lk])
    have := hG2.trans hG3
    simpa [Nat.add_assoc] using this
   | false =>
    rw [show bY (.mk false st (.mk rfk rfnm rfng rfdg rfks) ps rs) = [] by rw [bY]; rfl] at fin
    refine JD.seqK fun K hK => J.cw (CW.region ?_)
    simp (maxDischargeDepth := 16) [zY, ha]
    refine hK _ _ ?_; clear hK K
    refine JD.cond (t := false) (by simp [zT, zF, lk]) ?_
    exact JD.skip (fin tok1 σ1 _ _ (by simpa using Gw.refl hG.t) (by simp [sub, lk]))
 · refine JD.seqK fun K hK => J.cw (CW.region ?_)
   simp (maxDischargeDepth := 16) [zY, Nat.not_lt.2 hge]
   refine hK _ _ ?_; clear hK K
   refine JD.cond (t := false) (by simp [zT, zF, lk]) ?_
   refine JD.exit (hR2x _ _ _ (by simp) (hR1 _ _ _ ?_))
   simp only [outOf, if_true]
   refine hKL _ _ ?_
   rw [List.take_of_length_le hge] at *
   refine JD.seqK fun K hK => J.cw (CW.region ?_)
   simp (maxDischargeDepth := 16) [zY]
   refine hK _ _ ?_; clear hK K
   exact JD.ret (hR0 _ _ _ ⟨.sl (txtR (o ++ l.flatMap bY)) tok1, by simp [zA, omap, zB, zF, lk], tok1, rfl, hG⟩)
theorem params_j (hc : S.code = codeP Tryz.prog) (hm : S.ms 34 = []) (l : List Prm) (hlen : l.length ≤ 1000000000) (ih : ∀ nm t, Prm.mk nm t ∈ l → TJ S N [t]) : PJ S N l := by
 intro o tok tk σ ht hl
 rw [bPs_f] at hl ⊢
 refine JC.startG (fn := Tryz.f34) (codeOf hc Tryz.func34 rfl (by kernel_rfl)) rfl hm rfl (zL rfl) fun tm => ?_
 refine JD.hide fun R0 hR0 => ?_
 refine JD.seqK fun K hK => J.cw (CW.region ?_)
 simp (maxDischargeDepth := 16) [zY]
 refine hK _ _ ?_; clear hK K
 refine JD.seqK fun KL hKL => ?_
 refine JD.seqK fun K hK => J.cw (CW.region ?_)
 simp (maxDischargeDepth := 16) [zY]
 refine hK _ _ ?_; clear hK K
 refine JD.block (JD.hide fun R1 hR1 => ?_)
 refine JD.loopF (fun p : Nat × Tok × Sto => [(0, .sl (txtR (o ++ (l.take p.1).flatMap bP)) p.2.1), (1, .sl (prmR l) tk), (5, intV p.1)]) (fun p => p.2.2) (fun p => p.1 ≤ l.length ∧ Gw σ tok p.2.2 (o.length + ((l.take p.1).flatMap bP).length) p.2.1) (fun p => l.length - p.1) (0, tok, σ) (by simp [sub, lk]) rfl ⟨by simp, by simpa using Gw.refl ht⟩ ?_
 rintro ⟨i, tok1, σ1⟩ tm ⟨hi, hG⟩ R2 hR2 hR2x
 dsimp only at hi hG hR2 ⊢
 refine JD.seqK fun K3 hK3 => ?_
 rcases Nat.lt_or_ge i l.length with hlt | hge
 · have ha := prmR_get hlt
   have hmem : l[i] ∈ l := List.getElem_mem hlt
   obtain ⟨hf1, hf2⟩ := flat_take (b := bP) hlt
   refine JD.seqK fun K hK => J.cw (CW.region ?_)
   simp (maxDischargeDepth := 16) [zY, hlt]
   refine hK _ _ ?_; clear hK K
   refine JD.cond (t := true) (by simp [zT, zF, lk]) ?_
   refine JD.skip (hK3 _ _ ?_)
   refine JD.seqK fun K5 hK5 => JD.block ?_
   have fin : ∀ (tok2 : Tok) (σ2 : Sto) (fr : List (Nat × AV)) (tm : List AV), Gw σ1 tok1 σ2 (o.length + ((l.take (i + 1)).flatMap bP).length) tok2 → sub [(0, .sl (txtR (o ++ (l.take (i + 1)).flatMap bP)) tok2), (1, .sl (prmR l) tk), (5, intV i)] fr → K5 (fm 29 fr tm) σ2 := by
    intro tok2 σ2 fr tm hG2 hfr
    rw [fm_sub hfr]
    refine hK5 _ _ (J.cw (CW.region ?_))
    simp (maxDischargeDepth := 16) [zY, wrap_succ (show i ≤ 1000000000000 by omega)]
    exact hR2 _ _ ⟨(i + 1, tok2, σ2), _, _, rfl, by simp [sub, lk], rfl, ⟨hlt, hG.trans hG2⟩, show l.length - (i + 1) < l.length - i by omega⟩
   rw [hf1] at fin
   generalize (l.take i).flatMap bP = b at *
   generalize l[i] = t at *
   obtain ⟨nm, ⟨fn, st, ⟨rfk, rfnm, rfng, rfdg, rfks⟩, ps, rs⟩⟩ := t
   have hr := ih _ _ hmem
   simp only [Prm.cs] at ha
   rw [show bP (.mk nm (.mk fn st (.mk rfk rfnm rfng rfdg rfks) ps rs)) = nm :: bYs [.mk fn st (.mk rfk rfnm rfng rfdg rfks) ps rs] by rw [bP, bYs, bYs, List.append_nil]] at fin hf2
   unfold TJ at hr
   simp only [tyR, Ty.cs] at hr
   generalize bYs [.mk fn st (.mk rfk rfnm rfng rfdg rfks) ps rs] = bt at *
   simp only [List.length_append, List.length_cons] at hf2 fin
   obtain ⟨tok2, σ2, acc, hG2, hap⟩ := app_txt (o := o ++ b) (by simpa using hG.t) [nm] (by simp only [List.length_append, List.length_singleton]; omega)
   simp only [show txtR [nm] = [[.lit (.string nm)]] from rfl] at hap
   refine JD.seqK fun K hK => J.cw (CW.region ?_)
   simp (maxDischargeDepth := 16) [zY, ha, hap]
   refine hK _ _ ?_; clear hK K
   refine JD.region ?_
   simp (maxDischargeDepth := 16) [zY, symL, ha]
   have hG2t := hG2.t
   refine (hr (o ++ (b ++ [nm])) tok2 .full σ2 (by simpa [Nat.add_assoc] using hG2t) (by simp only [List.length_append, List.length_singleton]; omega)).mono ?_
   rintro r σ3 ⟨tok3, rfl, hG3⟩
   simp (maxDischargeDepth := 16) [zY, symL]
   refine fin tok3 σ3 _ _ ?_ (by simp [sub, lk])
   have := hG2.trans hG3
   rw [show o.length + (b.length + (bt.length + 1)) = o.length + (b.length + 1) + bt.length by omega]
   simpa using this
 · refine JD.seqK fun K hK => J.cw (CW.region ?_)
   simp (maxDischargeDepth := 16) [zY, Nat.not_lt.2 hge]
   refine hK _ _ ?_; clear hK K
   refine JD.cond (t := false) (by simp [zT, zF, lk]) ?_
   refine JD.exit (hR2x _ _ _ (by simp) (hR1 _ _ _ ?_))
   simp only [outOf, if_true]
   refine hKL _ _ ?_
   rw [List.take_of_length_le hge] at *
   refine JD.seqK fun K hK => J.cw (CW.region ?_)
   simp (maxDischargeDepth := 16) [zY]
   refine hK _ _ ?_; clear hK K
   exact JD.ret (hR0 _ _ _ ⟨.sl (txtR (o ++ l.flatMap bP)) tok1, by simp [zA, omap, zB, zF, lk], tok1, rfl, hG⟩)
theorem bind_j (hc : S.code = codeP Tryz.prog) (hm : S.ms 35 = []) (hm2 : S.ms 34 = []) : ∀ n : Nat, n ≤ 1000000000 → (∀ l : List Ty, tyN l ≤ n → TJ S N l) ∧ ∀ l : List Prm, prmN l ≤ n → PJ S N l := by
 intro n
 induction n with
 | zero =>
  intro _
  refine ⟨fun l h => ?_, fun l h => ?_⟩
  · have h2 := tyN_len l
    exact types_j hc hm l (by omega) fun fn st rf ps rs hx => by have := tyN_mem hx; have := (Ty.mk fn st rf ps rs).n_pos; omega
  · have h2 := prmN_len l
    exact params_j hc hm2 l (by omega) fun nm t hx => by have := prmN_mem hx; have := (Prm.mk nm t).n_pos; omega
 | succ n ih =>
  intro hn
  obtain ⟨i1, i2⟩ := ih (by omega)
  have ht : ∀ l : List Ty, tyN l ≤ n + 1 → TJ S N l := fun l h => by
   have h2 := tyN_len l
   refine types_j hc hm l (by omega) fun fn st rf ps rs hx => ?_
   have h3 := tyN_mem hx
   obtain ⟨rfk, rfnm, rfng, rfdg, rfks⟩ := rf
   simp only [Ty.n] at h3
   exact ⟨i2 ps (by omega), i1 rs (by omega)⟩
  refine ⟨ht, fun l h => ?_⟩
  have h2 := prmN_len l
  refine params_j hc hm2 l (by omega) fun nm t hx => ht [t] ?_
  have h3 := prmN_mem hx
  have h4 := (Prm.mk nm t).tyOf_n
  simp only [Prm.tyOf] at h4
  simp only [tyN]
  omega
end
section
open Go.RowKit
variable {S : Sp} {N : Nat}
def EJ (S : Sp) (N : Nat) (l : List Exp) : Prop := ∀ (o : List ByteArray) (tok tk : Tok) (σ : Sto), TokS σ o.length 9 tok → o.length + (bEs l).length ≤ 1000000000 → JC Tryz.prog (S.E N) 36 [.sl (txtR o) tok, .sl (expR l) tk] σ fun r σ' => ∃ tok', r = .ret (.sl (txtR (o ++ bEs l)) tok') ∧ Gw σ tok σ' (o.length + (bEs l).length) tok'
theorem Gw.nl {σ σ' : Sto} {m m' : Nat} {tok tok' : Tok} (h : Gw σ tok σ' m tok') (e : m = m') : Gw σ tok σ' m' tok' := e ▸ h
theorem exprs_j (hc : S.code = codeP Tryz.prog) (hm0 : S.ms 35 = []) (hm2 : S.ms 34 = []) (hm : S.ms 36 = []) (l : List Exp) (hn : expN l ≤ 1000000000)
    (ih : ∀ k nm ty rh am ar bd, Exp.mk k nm ty rh am ar bd ∈ l → EJ S N bd ∧ (∀ k nm ats ps rs b ts, Rhs.mk k nm ats ps rs b ts ∈ rh → EJ S N b) ∧ ∀ cn ns b, Arm.mk cn ns b ∈ ar → EJ S N b) : EJ S N l := by
 intro o tok tk σ ht hl
 rw [bEs_f] at hl ⊢
 have hlen := expN_len l
 obtain ⟨hTJ, hPJ⟩ := bind_j (N := N) hc hm0 hm2 1000000000 (Nat.le_refl _)
 refine JC.startG (fn := Tryz.f36) (codeOf hc Tryz.func36 rfl (by kernel_rfl)) rfl hm rfl (zL rfl) fun tm => ?_
 refine JD.hide fun R0 hR0 => ?_
 refine JD.seqK fun K hK => J.cw (CW.region ?_)
 simp (maxDischargeDepth := 16) [zY]
 refine hK _ _ ?_; clear hK K
 refine JD.seqK fun KL hKL => ?_
 refine JD.seqK fun K hK => J.cw (CW.region ?_)
 simp (maxDischargeDepth := 16) [zY]
 refine hK _ _ ?_; clear hK K
 refine JD.block (JD.hide fun R1 hR1 => ?_)
 refine JD.loopF (fun p : Nat × Tok × Sto => [(0, .sl (txtR (o ++ (l.take p.1).flatMap bE)) p.2.1), (1, .sl (expR l) tk), (5, intV p.1)]) (fun p => p.2.2) (fun p => p.1 ≤ l.length ∧ Gw σ tok p.2.2 (o.length + ((l.take p.1).flatMap bE).length) p.2.1) (fun p => l.length - p.1) (0, tok, σ) (by simp [sub, lk]) rfl ⟨by simp, by simpa using Gw.refl ht⟩ ?_
 rintro ⟨i, tok1, σ1⟩ tm ⟨hi, hG⟩ R2 hR2 hR2x
 dsimp only at hi hG hR2 ⊢
 refine JD.seqK fun K3 hK3 => ?_
 rcases Nat.lt_or_ge i l.length with hlt | hge
 · have ha := expR_get hlt
   have hmem : l[i] ∈ l := List.getElem_mem hlt
   have hni := expN_mem hmem
   obtain ⟨hf1, hf2⟩ := flat_take (b := bE) hlt
   refine JD.seqK fun K hK => J.cw (CW.region ?_)
   simp (maxDischargeDepth := 16) [zY, hlt]
   refine hK _ _ ?_; clear hK K
   refine JD.cond (t := true) (by simp [zT, zF, lk]) ?_
   refine JD.skip (hK3 _ _ ?_)
   refine JD.seqK fun K5 hK5 => JD.block ?_
   have fin : ∀ (tok2 : Tok) (σ2 : Sto) (fr : List (Nat × AV)) (tm : List AV), Gw σ1 tok1 σ2 (o.length + ((l.take (i + 1)).flatMap bE).length) tok2 → sub [(0, .sl (txtR (o ++ (l.take (i + 1)).flatMap bE)) tok2), (1, .sl (expR l) tk), (5, intV i)] fr → K5 (fm 89 fr tm) σ2 := by
    intro tok2 σ2 fr tm hG2 hfr
    rw [fm_sub hfr]
    refine hK5 _ _ (J.cw (CW.region ?_))
    simp (maxDischargeDepth := 16) [zY, wrap_succ (show i ≤ 1000000000000 by omega)]
    exact hR2 _ _ ⟨(i + 1, tok2, σ2), _, _, rfl, by simp [sub, lk], rfl, ⟨hlt, hG.trans hG2⟩, show l.length - (i + 1) < l.length - i by omega⟩
   clear hK5 hR2
   rw [hf1] at fin
   have hGt := hG.t
   rw [show o.length + ((l.take i).flatMap bE).length = (o ++ (l.take i).flatMap bE).length by simp] at hGt
   simp only [← List.append_assoc, List.length_append] at fin
   rw [show o.length + (((l.take i).flatMap bE).length + (bE l[i]).length) = (o ++ (l.take i).flatMap bE).length + (bE l[i]).length by simp; omega] at fin
   have hle : (o ++ (l.take i).flatMap bE).length + (bE l[i]).length ≤ 1000000000 := by rw [List.length_append]; omega
   generalize o ++ (l.take i).flatMap bE = b at *
   generalize l[i] = t at *
   obtain ⟨k, nm, ty, rh, ⟨amk, amnm, amng, amdg, amtr⟩, ar, bd⟩ := t
   obtain ⟨ihb, ihr, iha⟩ := ih _ _ _ _ _ _ _ hmem
   simp only [Exp.cs] at ha
   simp only [Exp.n] at hni
   rw [show bE (.mk k nm ty rh (.mk amk amnm amng amdg amtr) ar bd) = (if k = 1 then [nm] else []) ++ bYs ty ++ bRs rh ++ bEs bd ++ bMs ar by rw [bE]] at fin hle
   refine JD.seqK fun K hK => J.cw (CW.region ?_)
   simp (maxDischargeDepth := 16) [zY, ha]
   refine hK _ _ ?_; clear hK K
   have hlty := tyN_len ty
   have hlrh := rhsN_len rh
   have hlar := armN_len ar
   have hx0 : (σ1 ++ [(AObj.cells [.lit (.int .u8 k), .lit (.string nm), .sl (tyR ty) .no, .sl (rhsR rh) .no, .lit (.int .u8 amk), .lit (.string amnm), .lit (.bool amng), .sl (limR amdg) .no, .lit (.bool amtr), .sl (armR ar) .no, .sl (expR bd) .no] 49)])[σ1.length]? = some (AObj.cells [.lit (.int .u8 k), .lit (.string nm), .sl (tyR ty) .no, .sl (rhsR rh) .no, .lit (.int .u8 amk), .lit (.string amnm), .lit (.bool amng), .sl (limR amdg) .no, .lit (.bool amtr), .sl (armR ar) .no, .sl (expR bd) .no] 49) := by simp
   have hG0 := Gw.app hGt [(AObj.cells [.lit (.int .u8 k), .lit (.string nm), .sl (tyR ty) .no, .sl (rhsR rh) .no, .lit (.int .u8 amk), .lit (.string amnm), .lit (.bool amng), .sl (limR amdg) .no, .lit (.bool amtr), .sl (armR ar) .no, .sl (expR bd) .no] 49)]
   generalize hP : σ1.length = P at *
   generalize σ1 ++ [(AObj.cells [.lit (.int .u8 k), .lit (.string nm), .sl (tyR ty) .no, .sl (rhsR rh) .no, .lit (.int .u8 amk), .lit (.string amnm), .lit (.bool amng), .sl (limR amdg) .no, .lit (.bool amtr), .sl (armR ar) .no, .sl (expR bd) .no] 49)] = σ2 at *
   refine JD.keep [0, 1, 5, 6] fun tm => ?_
   simp only [sel, List.contains_cons, List.contains_nil, Bool.or_false, Nat.reduceBEq, Bool.false_eq_true, if_false, if_true, Bool.or_true, Bool.true_or]
   -- behind the arms
   have s0 : ∀ (bo : List ByteArray) (tok2 : Tok) (σ2 : Sto) (fr : List (Nat × AV)) (tm : List AV), bo = b ++ ((if k = 1 then [nm] else []) ++ bYs ty ++ bRs rh ++ bEs bd ++ bMs ar) → Gw σ1 tok1 σ2 bo.length tok2 → sub [(0, .sl (txtR bo) tok2), (1, .sl (expR l) tk), (5, intV i)] fr → K5 (fm 89 fr tm) σ2 := by
    intro bo tok2 σ2 fr tm e hG2 hfr
    subst e
    exact fin tok2 σ2 fr tm (by rw [List.length_append] at hG2; exact hG2) hfr
   clear fin
   have hk1 : (if k = 1 then [nm] else []).length ≤ 1 := by split <;> simp
   generalize hbk : (if k = 1 then [nm] else []) = bk at *
   simp only [List.length_append] at hle
   refine JD.seqK fun K7 hK7 => ?_
   have s7 : ∀ (tok2 : Tok) (σ3 : Sto) (fr : List (Nat × AV)) (tm : List AV), Gw σ1 tok1 σ3 (b ++ bk).length tok2 → σ3[P]? = some (AObj.cells [.lit (.int .u8 k), .lit (.string nm), .sl (tyR ty) .no, .sl (rhsR rh) .no, .lit (.int .u8 amk), .lit (.string amnm), .lit (.bool amng), .sl (limR amdg) .no, .lit (.bool amtr), .sl (armR ar) .no, .sl (expR bd) .no] 49) → sub [(0, .sl (txtR (b ++ bk)) tok2), (1, .sl (expR l) tk), (5, intV i), (6, .ptr P 0)] fr → K7 (fm 89 fr tm) σ3 := by
    intro tok2 σ3 fr tm hG3 hx3 hfr
    rw [fm_sub hfr]
    refine hK7 _ _ ?_
    clear hK7 hfr
    refine JD.seqK fun K hK => JD.region ?_
    simp (maxDischargeDepth := 16) [zY, symL, hx3]
    refine (hTJ ty (by omega) (b ++ bk) tok2 .no σ3 hG3.t (by simp only [List.length_append]; omega)).mono ?_
    rintro r σ4 ⟨tok3, rfl, hG4⟩
    have hx4 := hG4.get hG3.t hx3
    have hG5 := hG3.trans hG4
    simp (maxDischargeDepth := 16) [zY, symL]
    refine hK _ _ ?_; clear hK K
    rw [show (b ++ bk).length + (bYs ty).length = (b ++ (bk ++ bYs ty)).length by simp only [List.length_append]; omega] at hG5
    refine JD.keep [0, 1, 5, 6] fun tm => ?_
    simp only [sel, List.contains_cons, List.contains_nil, Bool.or_false, Nat.reduceBEq, Bool.false_eq_true, if_false, if_true, Bool.or_true, Bool.true_or]
    refine JD.seqK fun K8 hK8 => ?_
    refine JD.seqK fun K hK => J.cw (CW.region ?_)
    simp (maxDischargeDepth := 16) [zY]
    refine hK _ _ ?_; clear hK K
    refine JD.block (JD.hide fun R3 hR3 => ?_)
    refine JD.loopF (fun p : Nat × Tok × Sto => [(0, .sl (txtR (b ++ (bk ++ (bYs ty ++ (rh.take p.1).flatMap bR)))) p.2.1), (1, .sl (expR l) tk), (5, intV i), (6, .ptr P 0), (7, intV p.1)]) (fun p => p.2.2) (fun p => p.1 ≤ rh.length ∧ Gw σ1 tok1 p.2.2 (b ++ (bk ++ (bYs ty ++ (rh.take p.1).flatMap bR))).length p.2.1 ∧ p.2.2[P]? = some (AObj.cells [.lit (.int .u8 k), .lit (.string nm), .sl (tyR ty) .no, .sl (rhsR rh) .no, .lit (.int .u8 amk), .lit (.string amnm), .lit (.bool amng), .sl (limR amdg) .no, .lit (.bool amtr), .sl (armR ar) .no, .sl (expR bd) .no] 49)) (fun p => rh.length - p.1) (0, tok3, σ4) (by simp [sub, lk]) rfl ⟨by simp, by simpa using hG5, hx4⟩ ?_
    clear hG5 hx4 hG4
    rintro ⟨j, tok4, σ5⟩ tm ⟨hj, hG6, hx6⟩ R4 hR4 hR4x
    dsimp only at hj hG6 hx6 hR4 ⊢
    refine JD.seqK fun K9 hK9 => ?_
    rcases Nat.lt_or_ge j rh.length with hltj | hgej
    · have haj := rhsR_get hltj
      have hmemj : rh[j] ∈ rh := List.getElem_mem hltj
      have hnj := rhsN_mem hmemj
      obtain ⟨hj1, hj2⟩ := flat_take (b := bR) hltj
      rw [← bRs_f rh] at hj2
      refine JD.seqK fun K hK => J.cw (CW.region ?_)
      simp (maxDischargeDepth := 16) [zY, hx6, hltj]
      refine hK _ _ ?_; clear hK K
      refine JD.cond (t := true) (by simp [zT, zF, lk]) ?_
      refine JD.skip (hK9 _ _ ?_)
      clear hK9 K9
      refine JD.keep [0, 1, 5, 6, 7] fun tm => ?_
      simp only [sel, List.contains_cons, List.contains_nil, Bool.or_false, Nat.reduceBEq, Bool.false_eq_true, if_false, if_true, Bool.or_true, Bool.true_or]
      refine JD.seqK fun K10 hK10 => JD.block ?_
      have fin2 : ∀ (bo : List ByteArray) (tok2 : Tok) (σ2 : Sto) (fr : List (Nat × AV)) (tm : List AV), bo = b ++ (bk ++ (bYs ty ++ (rh.take (j + 1)).flatMap bR)) → Gw σ1 tok1 σ2 bo.length tok2 → σ2[P]? = some (AObj.cells [.lit (.int .u8 k), .lit (.string nm), .sl (tyR ty) .no, .sl (rhsR rh) .no, .lit (.int .u8 amk), .lit (.string amnm), .lit (.bool amng), .sl (limR amdg) .no, .lit (.bool amtr), .sl (armR ar) .no, .sl (expR bd) .no] 49) → sub [(0, .sl (txtR bo) tok2), (1, .sl (expR l) tk), (5, intV i), (6, .ptr P 0), (7, intV j)] fr → K10 (fm 89 fr tm) σ2 := by
       intro bo tok2 σ2 fr tm e hG2 hx2 hfr
       subst e
       rw [fm_sub hfr]
       refine hK10 _ _ (J.cw (CW.region ?_))
       simp (maxDischargeDepth := 16) [zY, wrap_succ (show j ≤ 1000000000000 by omega)]
       exact hR4 _ _ ⟨(j + 1, tok2, σ2), _, _, rfl, by simp [sub, lk], rfl, ⟨hltj, hG2, hx2⟩, show rh.length - (j + 1) < rh.length - j by omega⟩
      rw [hj1] at fin2
      clear hK10 hR4 hR4x
      rw [show b ++ (bk ++ (bYs ty ++ ((rh.take j).flatMap bR ++ bR rh[j]))) = (b ++ (bk ++ (bYs ty ++ (rh.take j).flatMap bR))) ++ bR rh[j] by simp only [List.append_assoc]] at fin2
      have hlen6 : (b ++ (bk ++ (bYs ty ++ (rh.take j).flatMap bR))).length + (bR rh[j]).length ≤ 1000000000 := by simp only [List.length_append]; omega
      generalize b ++ (bk ++ (bYs ty ++ (rh.take j).flatMap bR)) = bo at *
      generalize rh[j] = x at *
      obtain ⟨rk, rnm, ats, ps, rs, rb, ts⟩ := x
      have ihx := ihr _ _ _ _ _ _ _ hmemj
      simp only [Rhs.cs] at haj
      simp only [Rhs.n] at hnj
      rw [show bR (.mk rk rnm ats ps rs rb ts) = bPs ps ++ bYs rs ++ bEs rb by rw [bR]] at fin2 hlen6
      simp only [List.length_append] at hlen6
      refine JD.seqK fun K hK => JD.draw1 [0, 1, 2, 3, 4, 5, 6, 8, 9, 10, 11, 12, 13, 7, 14, 15] [7, 14] [P] (by simp) [.pure, .pure, .reads 0, .pure, .pure, .pure, .pure, .any, .pure, .reads 0, .pure, .pure, .pure, .pure, .any, .any] [0] (by kernel_rfl) ?_
      simp (maxDischargeDepth := 16) [zY, symD, hx6, haj]
      refine (hPJ ps (by omega) bo tok4 .no σ5 hG6.t (by omega)).mono ?_
      rintro r σ6 ⟨tok5, rfl, hG7⟩
      have hx7 := hG7.get hG6.t hx6
      simp (maxDischargeDepth := 16) [zY, symD, all_nil, all_cons]
      refine ⟨hx7, (hTJ rs (by omega) (bo ++ bPs ps) tok5 .no σ6 (by rw [List.length_append]; exact hG7.t) (by rw [List.length_append]; omega)).mono ?_⟩
      rintro r σ7 ⟨tok6, rfl, hG8⟩
      have hx8 := hG8.get hG7.t hx7
      simp (maxDischargeDepth := 16) [zY, symD, all_nil, all_cons]
      refine ⟨hx8.trans hx7.symm, hK _ _ ?_⟩; clear hK K
      have hG9 := (hG6.trans hG7).trans hG8
      rw [show (bo ++ bPs ps).length + (bYs rs).length = (bo ++ (bPs ps ++ bYs rs)).length by simp only [List.length_append]; omega] at hG9
      refine JD.keep [0, 1, 5, 6, 7] fun tm => ?_
      simp only [sel, List.contains_cons, List.contains_nil, Bool.or_false, Nat.reduceBEq, Bool.false_eq_true, if_false, if_true, Bool.or_true, Bool.true_or]
      refine JD.region ?_
      simp (maxDischargeDepth := 16) [zY, symL, hx8, haj]
      refine (ihx (bo ++ (bPs ps ++ bYs rs)) tok6 .no σ7 hG9.t (by simp only [List.length_append]; omega)).mono ?_
      rintro r σ8 ⟨tok7, rfl, hG10⟩
      have hx9 := hG10.get hG9.t hx8
      simp (maxDischargeDepth := 16) [zY, symL]
      refine fin2 (bo ++ (bPs ps ++ (bYs rs ++ bEs rb))) tok7 σ8 _ _ ?_ ?_ hx9 (by simp only [sub, lk, if_true, if_false, Nat.reduceEqDiff, implies_true, and_self])
      · simp only [List.append_assoc]
      · exact (hG9.trans hG10).nl (by simp only [List.length_append]; omega)
    · refine JD.seqK fun K hK => J.cw (CW.region ?_)
      simp (maxDischargeDepth := 16) [zY, hx6, Nat.not_lt.2 hgej]
      refine hK _ _ ?_; clear hK K
      refine JD.cond (t := false) (by simp [zT, zF, lk]) ?_
      refine JD.exit (hR4x _ _ _ (by simp) (hR3 _ _ _ ?_))
      simp only [outOf, if_true]
      refine hK8 _ _ ?_
      clear hK8 hR3 hR4 hR4x
      rw [List.take_of_length_le hgej, ← bRs_f] at *
      refine JD.keep [0, 1, 5, 6] fun tm => ?_
      simp only [sel, List.contains_cons, List.contains_nil, Bool.or_false, Nat.reduceBEq, Bool.false_eq_true, if_false, if_true, Bool.or_true, Bool.true_or]
      generalize hbo : b ++ (bk ++ (bYs ty ++ bRs rh)) = bo at *
      have hbol : bo.length + (bEs bd).length + (bMs ar).length ≤ 1000000000 := by rw [← hbo]; simp only [List.length_append]; omega
      refine JD.seqK fun K hK => JD.region ?_
      simp (maxDischargeDepth := 16) [zY, symL, hx6]
      refine (ihb bo tok4 .no σ5 hG6.t (by omega)).mono ?_
      rintro r σ6 ⟨tok5, rfl, hG7⟩
      have hx7 := hG7.get hG6.t hx6
      have hG8 := hG6.trans hG7
      simp (maxDischargeDepth := 16) [zY, symL]
      refine hK _ _ ?_; clear hK K
      refine JD.keep [0, 1, 5, 6] fun tm => ?_
      simp only [sel, List.contains_cons, List.contains_nil, Bool.or_false, Nat.reduceBEq, Bool.false_eq_true, if_false, if_true, Bool.or_true, Bool.true_or]
      refine JD.seqK fun K hK => J.cw (CW.region ?_)
      simp (maxDischargeDepth := 16) [zY]
      refine hK _ _ ?_; clear hK K
      refine JD.block (JD.hide fun R5 hR5 => ?_)
      rw [← List.length_append] at hG8
      refine JD.loopF (fun p : Nat × Tok × Sto => [(0, .sl (txtR (bo ++ (bEs bd ++ (ar.take p.1).flatMap bM))) p.2.1), (1, .sl (expR l) tk), (5, intV i), (6, .ptr P 0), (8, intV p.1)]) (fun p => p.2.2) (fun p => p.1 ≤ ar.length ∧ Gw σ1 tok1 p.2.2 (bo ++ (bEs bd ++ (ar.take p.1).flatMap bM)).length p.2.1 ∧ p.2.2[P]? = some (AObj.cells [.lit (.int .u8 k), .lit (.string nm), .sl (tyR ty) .no, .sl (rhsR rh) .no, .lit (.int .u8 amk), .lit (.string amnm), .lit (.bool amng), .sl (limR amdg) .no, .lit (.bool amtr), .sl (armR ar) .no, .sl (expR bd) .no] 49)) (fun p => ar.length - p.1) (0, tok5, σ6) (by simp [sub, lk]) rfl ⟨by simp, by simpa using hG8, hx7⟩ ?_
      clear hG8 hx7 hG7 hG6 hx6
      rintro ⟨m, tok6, σ7⟩ tm ⟨hm', hG9, hx9⟩ R6 hR6 hR6x
      dsimp only at hm' hG9 hx9 hR6 ⊢
      refine JD.seqK fun K9 hK9 => ?_
      rcases Nat.lt_or_ge m ar.length with hltm | hgem
      · have ham := armR_get hltm
        have hmemm : ar[m] ∈ ar := List.getElem_mem hltm
        have hnm' := armN_mem hmemm
        obtain ⟨hm1, hm2'⟩ := flat_take (b := bM) hltm
        rw [← bMs_f ar] at hm2'
        refine JD.seqK fun K hK => J.cw (CW.region ?_)
        simp (maxDischargeDepth := 16) [zY, hx9, hltm]
        refine hK _ _ ?_; clear hK K
        refine JD.cond (t := true) (by simp [zT, zF, lk]) ?_
        refine JD.skip (hK9 _ _ ?_)
        clear hK9 K9
        refine JD.keep [0, 1, 5, 6, 8] fun tm => ?_
        simp only [sel, List.contains_cons, List.contains_nil, Bool.or_false, Nat.reduceBEq, Bool.false_eq_true, if_false, if_true, Bool.or_true, Bool.true_or]
        refine JD.seqK fun K10 hK10 => JD.block ?_
        have fin3 : ∀ (bo' : List ByteArray) (tok2 : Tok) (σ2 : Sto) (fr : List (Nat × AV)) (tm : List AV), bo' = bo ++ (bEs bd ++ (ar.take (m + 1)).flatMap bM) → Gw σ1 tok1 σ2 bo'.length tok2 → σ2[P]? = some (AObj.cells [.lit (.int .u8 k), .lit (.string nm), .sl (tyR ty) .no, .sl (rhsR rh) .no, .lit (.int .u8 amk), .lit (.string amnm), .lit (.bool amng), .sl (limR amdg) .no, .lit (.bool amtr), .sl (armR ar) .no, .sl (expR bd) .no] 49) → sub [(0, .sl (txtR bo') tok2), (1, .sl (expR l) tk), (5, intV i), (6, .ptr P 0), (8, intV m)] fr → K10 (fm 89 fr tm) σ2 := by
         intro bo' tok2 σ2 fr tm e hG2 hx2 hfr
         subst e
         rw [fm_sub hfr]
         refine hK10 _ _ (J.cw (CW.region ?_))
         simp (maxDischargeDepth := 16) [zY, wrap_succ (show m ≤ 1000000000000 by omega)]
         exact hR6 _ _ ⟨(m + 1, tok2, σ2), _, _, rfl, by simp [sub, lk], rfl, ⟨hltm, hG2, hx2⟩, show ar.length - (m + 1) < ar.length - m by omega⟩
        rw [hm1] at fin3
        clear hK10 hR6 hR6x
        rw [show bo ++ (bEs bd ++ ((ar.take m).flatMap bM ++ bM ar[m])) = (bo ++ (bEs bd ++ (ar.take m).flatMap bM)) ++ bM ar[m] by simp only [List.append_assoc]] at fin3
        have hlen6 : (bo ++ (bEs bd ++ (ar.take m).flatMap bM)).length + (bM ar[m]).length ≤ 1000000000 := by simp only [List.length_append]; omega
        generalize bo ++ (bEs bd ++ (ar.take m).flatMap bM) = bq at *
        generalize ar[m] = x at *
        obtain ⟨cn, ns, rb⟩ := x
        have ihx := iha _ _ _ hmemm
        simp only [Arm.cs] at ham
        simp only [Arm.n] at hnm'
        rw [show bM (.mk cn ns rb) = ns ++ bEs rb by rw [bM]] at fin3 hlen6
        simp only [List.length_append] at hlen6
        obtain ⟨tok7, σ8, acc, hG10, hap⟩ := app_txt hG9.t ns (by omega)
        have hx10 := hG10.get hG9.t hx9
        have hG11 := hG9.trans hG10
        rw [← List.length_append] at hG11
        refine JD.seqK fun K hK => J.cw (CW.region ?_)
        simp (maxDischargeDepth := 16) [zY, hx9, ham, hap]
        refine hK _ _ ?_; clear hK K
        refine JD.keep [0, 1, 5, 6, 8] fun tm => ?_
        simp only [sel, List.contains_cons, List.contains_nil, Bool.or_false, Nat.reduceBEq, Bool.false_eq_true, if_false, if_true, Bool.or_true, Bool.true_or]
        refine JD.region ?_
        simp (maxDischargeDepth := 16) [zY, symL, hx10, ham]
        refine (ihx (bq ++ ns) tok7 .no σ8 hG11.t (by rw [List.length_append]; omega)).mono ?_
        rintro r σ9 ⟨tok8, rfl, hG12⟩
        have hx11 := hG12.get hG11.t hx10
        simp (maxDischargeDepth := 16) [zY, symL]
        refine fin3 (bq ++ (ns ++ bEs rb)) tok8 σ9 _ _ ?_ ?_ hx11 (by simp only [sub, lk, if_true, if_false, Nat.reduceEqDiff, implies_true, and_self])
        · simp only [List.append_assoc]
        · exact (hG11.trans hG12).nl (by simp only [List.length_append]; omega)
      · refine JD.seqK fun K hK => J.cw (CW.region ?_)
        simp (maxDischargeDepth := 16) [zY, hx9, Nat.not_lt.2 hgem]
        refine hK _ _ ?_; clear hK K
        refine JD.cond (t := false) (by simp [zT, zF, lk]) ?_
        refine JD.exit (hR6x _ _ _ (by simp) (hR5 _ _ _ ?_))
        simp only [outOf, if_true]
        rw [List.take_of_length_le hgem, ← bMs_f] at *
        refine s0 (bo ++ (bEs bd ++ bMs ar)) tok6 σ7 _ _ ?_ hG9 (by simp only [sub, lk, if_true, if_false, Nat.reduceEqDiff, implies_true, and_self])
        rw [← hbo]; simp only [List.append_assoc]
   rcases Classical.em (k = 1) with hk | hk
   · have hk' := eq_true hk
     have hk2 : (k == 1) = true := by simp [hk]
     rw [if_pos hk] at hbk
     subst hbk
     obtain ⟨tok2, σ3, acc, hG3, hap⟩ := app_txt hG0.t [nm] (by simp only [List.length_singleton]; simp only [List.length_singleton] at hle; omega)
     simp only [show txtR [nm] = [[.lit (.string nm)]] from rfl] at hap
     refine JD.seqK fun K hK => J.cw (CW.region ?_)
     simp (maxDischargeDepth := 16) [zY, hx0, hk']
     refine hK _ _ ?_; clear hK K
     refine JD.cond (t := true) (by simp [zT, zF, lk, hk', hk2]) ?_
     refine J.cw (CW.region ?_)
     simp (maxDischargeDepth := 16) [zY, hx0, hap]
     exact s7 tok2 σ3 _ _ ((hG0.trans hG3).nl (by simp)) (hG3.get hG0.t hx0) (by simp [sub, lk])
   · have hk' := eq_false hk
     have hk2 : (k == 1) = false := by simp [hk]
     rw [if_neg hk] at hbk
     subst hbk
     refine JD.seqK fun K hK => J.cw (CW.region ?_)
     simp (maxDischargeDepth := 16) [zY, hx0, hk']
     refine hK _ _ ?_; clear hK K
     refine JD.cond (t := false) (by simp [zT, zF, lk, hk', hk2]) ?_
     exact JD.skip (s7 tok1 σ2 _ _ (hG0.nl (by simp)) hx0 (by simp [sub, lk]))
 · refine JD.seqK fun K hK => J.cw (CW.region ?_)
   simp (maxDischargeDepth := 16) [zY, Nat.not_lt.2 hge]
   refine hK _ _ ?_; clear hK K
   refine JD.cond (t := false) (by simp [zT, zF, lk]) ?_
   refine JD.exit (hR2x _ _ _ (by simp) (hR1 _ _ _ ?_))
   simp only [outOf, if_true]
   refine hKL _ _ ?_
   rw [List.take_of_length_le hge] at *
   refine JD.seqK fun K hK => J.cw (CW.region ?_)
   simp (maxDischargeDepth := 16) [zY]
   refine hK _ _ ?_; clear hK K
   exact JD.ret (hR0 _ _ _ ⟨.sl (txtR (o ++ l.flatMap bE)) tok1, by simp [zA, omap, zB, zF, lk], tok1, rfl, hG⟩)
end
end Go.Proofs.YteajcnilihgheaaGreatDoor
