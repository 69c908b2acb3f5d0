/-
 EV: the statement TreeSubst: its walk.
-/
import Derived.Test.YtncoidmbmihliaaGreatDoorTPlnM
import Derived.Test.YtncoidmbmihliaaGreatDoorTPlainM
namespace Go.Proofs.YtncoidmbmihliaaGreatDoor
set_option maxRecDepth 100000
set_option maxHeartbeats 8000000
set_option linter.unusedSimpArgs false
set_option linter.unusedVariables false
open Go.RowKit
variable {S : Sp} {N : Nat}
structure Sx where
 e : Exp
 names : List ByteArray
 put : List Atm
abbrev Sx.Pre (t : Sx) : Prop := t.e.w ≤ 4194304 ∧ txtW t.names ≤ 4194304 ∧ atmW t.put ≤ 4194304 ∧ ∀ a ∈ t.put, a.toT.w ≤ 4194304
abbrev lsubstF : FS := smF (fun t : Sx => [.agg t.e.cs, .sl (txtR t.names) .no, .sl (atmR t.put) .no]) (fun _ => .lit (.bool true)) Sx.Pre (fun _ => 10000000000000) 0
theorem sx_inj (a b : Sx) (e : [AV.agg a.e.cs, .sl (txtR a.names) .no, .sl (atmR a.put) .no] = [AV.agg b.e.cs, .sl (txtR b.names) .no, .sl (atmR b.put) .no]) : a = b := by
 obtain ⟨a1, a2, a3⟩ := a; obtain ⟨b1, b2, b3⟩ := b
 simp only [List.cons.injEq, AV.sl.injEq, AV.agg.injEq, and_true] at e
 rw [Exp.inj e.1, txtR_inj e.2.1, atmR_inj e.2.2]
theorem atmW_mem {l : List Atm} {a : Atm} (h : a ∈ l) : a.w ≤ atmW l := by
 induction l with
 | nil => cases h
 | cons x l ih =>
  rw [atmW]
  rcases List.mem_cons.1 h with rfl | h
  · omega
  · have := ih h; omega
theorem txtW_mem {l : List ByteArray} {a : ByteArray} (h : a ∈ l) : 1 + a.size ≤ txtW l := by
 induction l with
 | nil => cases h
 | cons x l ih =>
  rw [txtW]
  rcases List.mem_cons.1 h with rfl | h
  · omega
  · have := ih h; omega
theorem atmN_map (f : ByteArray → Atm) (h : ∀ x, (f x).n = 1) (l : List ByteArray) : atmN (l.map f) = l.length := by
 induction l with
 | nil => rfl
 | cons x l ih => rw [List.map_cons, atmN, ih, h, List.length_cons]; omega
theorem aV_n (x : ByteArray) : (aV x).n = 1 := rfl
theorem atmN_101 {l : List Atm} (h : ∀ a ∈ l, a.n ≤ 101) : atmN l ≤ 101 * l.length := by
 induction l with
 | nil => simp [atmN]
 | cons a l ih => have := h a (by simp); have := ih fun b hb => h b (by simp [hb]); simp only [atmN, List.length_cons]; omega
theorem own_low {names : List ByteArray} (h : txtW names ≤ 4194304) : (ownM names).Low := by
 intro a ha
 obtain ⟨x, hx, rfl⟩ := List.mem_map.1 (show a ∈ names.map aV from ha)
 have h1 := txtW_mem hx
 have h2 : (⟨#[]⟩ : ByteArray).size = 0 := rfl
 refine ⟨by show 1 ≤ 102; omega, ?_, ?_⟩
 · show 1 + x.size + 0 ≤ _; omega
 · show 1 + x.size + 0 + 0 + rgW 1 [] ≤ _
   have : rgW 1 [] = 0 := by decide
   omega
theorem call_substY {P : Program} {args : List AV} {σ : Sto} {Q : ARes → Sto → Prop} (e : Exp) (names : List ByteArray) (atoms : List Atm) (r : Exp) (hr : (mkOf names atoms).putE e = r) (h : S.sp 7 = some substEF) (ha : nrmR args = [.agg e.cs, .sl (txtR names) .no, .sl (atmR atoms) .no]) (h1 : e.n ≤ 100000000 ∧ e.c ≤ 20000) (h2 : names.length ≤ 1000000000) (h3 : atmN atoms ≤ 100000000) (hN : 16 * (2 * atmN atoms + e.n) + 15 < N)
    (hq : Q (.ret (.tup [.agg r.cs, .lit (.int .i64 0)])) σ) : CallW P (S.E N) 7 args σ Q :=
 call_substE (Q := Q) ⟨e, names, atoms⟩ h ha ⟨h1, h2, h3⟩ (by have := W_le names atoms; show 16 * ((mkOf names atoms).W + e.n) + 15 < N; omega) fun _ => by subst hr; exact hq
theorem atm_stp1 (a : Atm) : stripRows [a.cs] = [a.cs] := by simp [stripRows, a.stp]
theorem lsubst_w (hc : S.code = codeP Tryz.prog) (hm : S.ms 3 = []) (hW : S.sp 5 = some awakeF) (hG : S.sp 6 = some lgreatF) (hS : S.sp 7 = some substEF) (hE : S.sp 11 = some (sameW (fun t : Exp => .agg t.cs) Exp.w 2)) (hV : S.sp 9 = some lvF) (hP : S.sp 10 = some lplainF) (hSt : S.sp 12 = some lstandsF) (hC : S.sp 13 = some countF) (hF : S.sp 14 = some treeFreeF) :
    SmOk Tryz.prog S N 3 (fun t : Sx => [.agg t.e.cs, .sl (txtR t.names) .no, .sl (atmR t.put) .no]) (fun _ => .lit (.bool true)) Sx.Pre (fun _ => 10000000000000) 0 := by
 rintro ⟨e, names, put⟩ σ ⟨pe, pn, pp, pt⟩ hN
 refine JC.startF (fn := Tryz.f3) (codeOf hc Tryz.func3 rfl (by kernel_rfl)) rfl hm rfl (zL rfl) fun tm => ?_
 refine CW.hide fun R0 hR0 => ?_
 dsimp only at hN
 dsimp only at pe pn pp pt
 have hexp : expW [e] = e.w := by simp [expW]
 have hen : expN [e] ≤ e.w := by
  have := exps_go [e] 4398046511104 0 (by omega) (by omega) (by omega) (by omega)
  omega
 have hnl := txtW_len names
 have hpl := atmW_len put
 refine CW.seqK fun K hK => CW.region ?_
 simp (maxDischargeDepth := 16) [zY, Exp.len, Exp.tk, Exp.put]
 refine hK _ _ ?_; clear hK K
 refine CW.seqK fun K hK => ?_
 refine CW.seqK fun K2 hK2 => CW.region ?_
 simp (maxDischargeDepth := 16) [zY]
 refine call_sm () hW lyes_inj (by simp only [nrmR]) trivial (by omega) fun _ => ?_
 simp (maxDischargeDepth := 16) [zY]
 refine hK2 _ _ ?_
 refine CW.cond (t := false) (by simp [zT, zF, lk]) ?_
 refine CW.skip (hK _ _ ?_); clear hK2 K2 hK K
 refine CW.seqK fun K hK => ?_
 have part2 : e.n ≤ 2000 → names.length ≤ 100 → put.length ≤ 100 → ∀ (fr : List (Nat × AV)) (tm : List AV), sub [(1, .sl (txtR names) .no), (2, .sl (atmR put) .no), (3, .ptr σ.length 0)] fr → K (fm 186 fr tm) (σ ++ [.cells e.cs 34]) := by
  intro he hn1 hp1 fr tm hs
  rw [fm_sub hs]
  refine hK _ _ ?_
  refine CW.seqK fun K hK => ?_
  have part3 : (∀ a ∈ put, a.n ≤ 101) → ∀ (fr : List (Nat × AV)) (tm : List AV), sub [(1, .sl (txtR names) .no), (2, .sl (atmR put) .no), (3, .ptr σ.length 0)] fr → K (fm 186 fr tm) (σ ++ [.cells e.cs 34]) := by
   intro hpa fr tm hs
   rw [fm_sub hs]
   refine hK _ _ ?_
   have low1 : ∀ ns : List ByteArray, (mkOf ns put).Low := fun ns a ha => ⟨by have := hpa a ha; omega, Nat.le_trans (atmW_mem ha) pp, pt a ha⟩
   have hf := put_x (low1 names) e
   have hsz := put_x (own_low pn) e
   have ho := put_x (low1 [nB]) e
   have hcnt := put_cnt1 (mkOf names put) e
   have hfre := put_frE (mkOf names put) e
   have hself : e.pl = true → eqb ((ownM names).putE e) e = true := fun h => eqb_iff.2 (own_e names e h)
   have hodd : standsB e = true → eqb ((mkOf [nB] put).putE e) e = true := fun h => by
    simp only [standsB, Bool.and_eq_true] at h
    exact eqb_iff.2 ((imp_one nB oB (by decide) put).x e (eqb_iff.1 h.2).symm)
   have hap := atmN_101 hpa
   have hcn := e.c_le
   have hon : atmN (names.map aV) = names.length := atmN_map aV aV_n names
   generalize hfd : (mkOf names put).putE e = f at hf hcnt hfre
   generalize hsd : (ownM names).putE e = s at hsz hself
   generalize hod : (mkOf [nB] put).putE e = od at ho hodd
   have c1 : ∀ (t1 t2 : Tok) (σ2 : Sto) (Q : ARes → Sto → Prop), Q (.ret (.tup [.agg f.cs, .lit (.int .i64 0)])) σ2 → CallW Tryz.prog (S.E N) 7 [.agg e.cs, .sl (txtR names) t1, .sl (atmR put) t2] σ2 Q := fun t1 t2 σ2 Q hq => call_substY e names put f hfd hS (by simp only [nrmR, AV.nrm, Exp.nrm, txtR_nrm, atmR_nrm]) ⟨by omega, by omega⟩ (by omega) (by omega) (by omega) hq
   have c2 : ∀ (t1 t2 : Tok) (σ2 : Sto) (Q : ARes → Sto → Prop), Q (.ret (.tup [.agg s.cs, .lit (.int .i64 0)])) σ2 → CallW Tryz.prog (S.E N) 7 [.agg e.cs, .sl (txtR names) t1, .sl (atmR (names.map aV)) t2] σ2 Q := fun t1 t2 σ2 Q hq => call_substY e names (names.map aV) s hsd hS (by simp only [nrmR, AV.nrm, Exp.nrm, txtR_nrm, atmR_nrm]) ⟨by omega, by omega⟩ (by omega) (by omega) (by omega) hq
   have c3 : ∀ (t1 t2 : Tok) (σ2 : Sto) (Q : ARes → Sto → Prop), Q (.ret (.tup [.agg od.cs, .lit (.int .i64 0)])) σ2 → CallW Tryz.prog (S.E N) 7 [.agg e.cs, .sl [[.lit (.string nB)]] t1, .sl (atmR put) t2] σ2 Q := fun t1 t2 σ2 Q hq => call_substY e [nB] put od hod hS (by simp only [nrmR, AV.nrm, Exp.nrm, txtR, atmR_nrm, nrmRR, List.map_cons, List.map_nil]) ⟨by omega, by omega⟩ (by simp) (by omega) (by omega) hq
   have cv : ∀ (nm : ByteArray) (σ2 : Sto) (Q : ARes → Sto → Prop), Q (.ret (.agg (aV nm).cs)) σ2 → CallW Tryz.prog (S.E N) 9 [.lit (.string nm)] σ2 Q := fun nm σ2 Q hq => call_sm nm hV lv_inj (by simp only [nrmR, AV.nrm]) trivial (by omega) fun _ => hq
   have cp : ∀ (σ2 : Sto) (Q : ARes → Sto → Prop), (accW (S.E N) 10 [.agg e.cs] σ2 (.ret (.lit (.bool e.pl))) σ2 = .lcalls (fun _ => true) → Q (.ret (.lit (.bool e.pl))) σ2) → CallW Tryz.prog (S.E N) 10 [.agg e.cs] σ2 Q := fun σ2 Q hq => call_pure e hP exp1_inj (by simp only [nrmR, AV.nrm, Exp.nrm]) (by omega) (by omega) hq
   have cst : ∀ (σ2 : Sto) (Q : ARes → Sto → Prop), (accW (S.E N) 12 [.agg e.cs] σ2 (.ret (.lit (.bool (standsB e)))) σ2 = .lcalls (fun _ => true) → Q (.ret (.lit (.bool (standsB e)))) σ2) → CallW Tryz.prog (S.E N) 12 [.agg e.cs] σ2 Q := fun σ2 Q hq => call_sm e hSt exp1_inj (by simp only [nrmR, AV.nrm, Exp.nrm]) ⟨he, pe⟩ (by omega) hq
   have cs : ∀ (a b : Exp) (σ2 : Sto) (Q : ARes → Sto → Prop), a.w ≤ 9000000000 → b.w ≤ 9000000000 → (accW (S.E N) 11 [.agg a.cs, .agg b.cs] σ2 (.ret (.lit (.bool (eqb a b)))) σ2 = .lcalls (fun _ => true) → Q (.ret (.lit (.bool (eqb a b)))) σ2) → CallW Tryz.prog (S.E N) 11 [.agg a.cs, .agg b.cs] σ2 Q := fun a b σ2 Q h1 h2 hq => call_sameW a b hE (agg_inj Exp.inj) (by simp only [nrmR, AV.nrm, Exp.nrm]) (by omega) (by omega) (by omega) hq
   have cc : ∀ (a : Exp) (t : Tok) (σ2 : Sto) (Q : ARes → Sto → Prop), a.w ≤ 9000000000 → (accW (S.E N) 13 [.sl [a.cs] t] σ2 (.ret (intV (cntN [a] : Nat))) σ2 = .lcalls (fun _ => true) → Q (.ret (intV (cntN [a] : Nat))) σ2) → CallW Tryz.prog (S.E N) 13 [.sl [a.cs] t] σ2 Q := fun a t σ2 Q h1 hq => call_sm [a] hC lgreat_inj (by simp [nrmR, AV.nrm, nrmRR, Exp.nrm, expR]) (by simp only [expW]; omega) (by simp only [expW]; omega) hq
   have cf : ∀ (a : Exp) (σ2 : Sto) (Q : ARes → Sto → Prop), a.w ≤ 9000000000 → Q (.ret (.sl (txtR (setL (frE a))) .no)) σ2 → CallW Tryz.prog (S.E N) 14 [.agg a.cs] σ2 Q := fun a σ2 Q h1 hq => call_sm a hF exp1_inj (by simp only [nrmR, AV.nrm, Exp.nrm]) (by omega) (by omega) fun _ => hq
   have el := e.len; have et := e.tk; have ep := fun z => e.put (z := z)
   have fl := f.len; have ft := f.tk; have fp := fun z => f.put (z := z)
   have sl := s.len; have stk := s.tk; have sp := fun z => s.put (z := z)
   have ol := od.len; have ot := od.tk; have op := fun z => od.put (z := z)
   have hw1 : f.w ≤ 9000000000 := by omega
   have hw2 : s.w ≤ 9000000000 := by omega
   have hw3 : od.w ≤ 9000000000 := by omega
   have hw4 : e.w ≤ 9000000000 := by omega
   refine CW.seqK fun K5 hK5 => CW.region ?_
   simp (maxDischargeDepth := 16) [zY, el, et, ep, fl, ft, fp]
   refine c1 _ _ _ _ ?_
   simp (maxDischargeDepth := 16) [zY, el, et, ep, fl, ft, fp]
   refine hK5 _ _ ?_; clear hK5 K5
   refine CW.seqK fun K5 hK5 => ?_
   refine CW.seqK fun K hK => CW.region ?_
   simp (maxDischargeDepth := 16) [zY]
   refine hK _ _ ?_; clear hK K
   refine CW.cond (t := false) (by simp [zT, zF, lk]) ?_
   refine CW.skip (hK5 _ _ ?_); clear hK5 K5
   refine CW.seqK fun K hK => CW.region ?_
   simp (maxDischargeDepth := 16) [zY]
   refine hK _ _ ?_; clear hK K
   refine CW.seqK fun K5 hK5 => ?_
   have part4 : ∀ (tok : Tok) (g : List AObj) (fr : List (Nat × AV)) (tm : List AV), sub [(1, .sl (txtR names) .no), (2, .sl (atmR put) .no), (3, .ptr σ.length 0), (8, .ptr (σ.length + 1) 0), (10, .sl (atmR (names.map aV)) tok)] fr → K5 (fm 186 fr tm) (σ ++ (.cells e.cs 34 :: .cells f.cs 34 :: g)) := by
    intro tok g fr tm hs
    rw [fm_sub hs]
    refine hK5 _ _ ?_; clear hK5 K5
    have hg0 : ∀ a b : AObj, (g ++ [a, b])[g.length]? = some a := fun a b => by simp
    have hg1 : ∀ a b : AObj, (g ++ [a, b])[g.length + 1]? = some b := fun a b => by simp
    refine CW.seqK fun K6 hK6 => CW.region ?_
    simp (maxDischargeDepth := 16) [zY, el, et, ep, sl, stk, sp]
    refine c2 _ _ _ _ ?_
    simp (maxDischargeDepth := 16) [zY, el, et, ep, sl, stk, sp]
    refine hK6 _ _ ?_; clear hK6 K6
    refine CW.seqK fun K6 hK6 => CW.region ?_
    simp (maxDischargeDepth := 16) [zY, el, et, ep, ol, ot, op]
    refine c3 _ _ _ _ ?_
    simp (maxDischargeDepth := 16) [zY, el, et, ep, ol, ot, op]
    refine hK6 _ _ ?_; clear hK6 K6
    refine CW.seqK fun K6 hK6 => CW.seqK fun K7 hK7 => CW.draw (by kernel_rfl) ?_
    have part5 : ∀ (fr : List (Nat × AV)) (tm : List AV), sub [(2, .sl (atmR put) .no), (3, .ptr σ.length 0), (8, .ptr (σ.length + 1) 0), (129, .lit (.bool false))] fr → K7 (fm 186 fr tm) (σ ++ (.cells e.cs 34 :: .cells f.cs 34 :: (g ++ [.cells s.cs 34, .cells od.cs 34]))) := by
     intro fr tm hs
     rw [fm_sub hs]
     refine hK7 _ _ ?_
     refine CW.cond (t := false) (by simp [zT, zF, lk]) ?_
     refine CW.skip (hK6 _ _ ?_)
     have q1 : (σ ++ (.cells e.cs 34 :: .cells f.cs 34 :: (g ++ [.cells s.cs 34, .cells od.cs 34])))[σ.length]? = some (.cells e.cs 34) := by simp
     have q2 : (σ ++ (.cells e.cs 34 :: .cells f.cs 34 :: (g ++ [.cells s.cs 34, .cells od.cs 34])))[σ.length + 1]? = some (.cells f.cs 34) := by simp
     have q3 : ∃ g', (σ ++ (.cells e.cs 34 :: .cells f.cs 34 :: (g ++ [.cells s.cs 34, .cells od.cs 34]))) = σ ++ g' := ⟨_, rfl⟩
     generalize σ ++ (.cells e.cs 34 :: .cells f.cs 34 :: (g ++ [.cells s.cs 34, .cells od.cs 34])) = ρ at q1 q2 q3 ⊢
     have r1 : ∀ l : Sto, (ρ ++ l)[σ.length]? = some (.cells e.cs 34) := fun l => (st_old (List.getElem?_eq_some_iff.1 q1).1).trans q1
     have r2 : ∀ l : Sto, (ρ ++ l)[σ.length + 1]? = some (.cells f.cs 34) := fun l => (st_old (List.getElem?_eq_some_iff.1 q2).1).trans q2
     have hmf := mem_free f
     have hme := mem_free e
     have hfl := free_len e
     have hfl2 := free_len f
     have hcf := cf f
     have hce := cf e
     generalize setL (frE f) = lm at hmf hfl2 hcf
     generalize setL (frE e) = le at hme hfl hce
     have mk1 := fun (ρ : Operand → Option AV) (σ : Sto) (ds : Option Tmp) (ty : TypeId) (po : String) (af : Array Edge) (gu : Option (Nat × Bool)) => es_mk (P := Tryz.prog) (M := []) (ρ := ρ) (σ := σ) (ds := ds) (ty := ty) (po := po) (af := af) (gu := gu) (t := 46) (kt := 9) (e := 4) (q := .str) (by kernel_rfl) (by kernel_rfl)
     refine CW.seqK fun K hK => CW.region ?_
     simp (maxDischargeDepth := 16) [zY, mk1]
     refine hK _ _ ?_; clear hK K
     refine CW.seqK fun K hK => CW.region ?_
     simp (maxDischargeDepth := 16) [zY, r1, el, et]
     refine hce _ _ hw4 ?_
     simp (maxDischargeDepth := 16) [zY]
     refine hK _ _ ?_; clear hK K
     refine CW.seqK fun K hK => ?_
     have part6 : ∀ (es : List (Value × AV)) (fr : List (Nat × AV)) (tm : List AV), strK es → (∀ x, (mapGet (.string x) es).getD (.lit (.bool false)) = .lit (.bool true) ∨ (mapGet (.string x) es).getD (.lit (.bool false)) = .lit (.bool false)) → (∀ x ∈ le, (mapGet (.string x) es).getD (.lit (.bool false)) = .lit (.bool true)) → sub [(2, .sl (atmR put) .no), (8, .ptr (σ.length + 1) 0), (16, .mp ρ.length)] fr → K (fm 186 fr tm) (ρ ++ [.map .str es]) := by
      intro es fr tm hk hb hin hs
      rw [fm_sub hs]
      refine hK _ _ ?_; clear hK K
      refine CW.seqK fun K hK => ?_
      have part7 : ∀ (es : List (Value × AV)) (fr : List (Nat × AV)) (tm : List AV), (∀ x, (x ∈ le ∨ ∃ a ∈ put, frA a x) → (mapGet (.string x) es).getD (.lit (.bool false)) = .lit (.bool true)) → sub [(8, .ptr (σ.length + 1) 0), (16, .mp ρ.length)] fr → K (fm 186 fr tm) (ρ ++ [.map .str es]) := by
       intro es fr tm hin hs
       rw [fm_sub hs]
       refine hK _ _ ?_; clear hK K
       refine CW.seqK fun K hK => CW.region ?_
       simp (maxDischargeDepth := 16) [zY, r2, fl, ft]
       refine hcf _ _ hw1 ?_
       simp (maxDischargeDepth := 16) [zY]
       refine hK _ _ ?_; clear hK K
       refine CW.seqK fun K hK => ?_
       refine CW.seqK fun K hK => CW.region ?_
       simp (maxDischargeDepth := 16) [zY]
       refine hK _ _ ?_; clear hK K
       refine CW.block (CW.hide fun R hR => ?_)
       refine CW.loopF (fun i : Nat => [(16, .mp ρ.length), (20, .sl (txtR lm) .no), (21, intV i)]) (fun _ => ρ ++ [.map .str es]) (fun i => i ≤ lm.length) (fun i => lm.length - i) 0 (by simp [sub, lk]) rfl (Nat.zero_le _) ?_
       intro i tm hi
       refine CW.hide fun R2 hR2 => CW.seqK fun K3 hK3 => CW.seqK fun K4 hK4 => CW.region ?_
       rcases Nat.lt_or_ge i lm.length with hlt | hge
       · have ha := txtR_get hlt
         have hx := hin lm[i] (by
          rcases hfre _ ((hmf _).1 (List.getElem_mem hlt)) with h | ⟨a, h1, h2⟩
          · exact .inl ((hme _).2 h)
          · exact .inr ⟨a, h1, h2⟩)
         generalize lm[i] = x at ha hx
         simp (maxDischargeDepth := 16) [zY, hlt]
         refine hK4 _ _ ?_
         refine CW.cond (t := true) (by simp [zT, zF, lk]) ?_
         refine CW.skip (hK3 _ _ ?_)
         refine CW.seqK fun K5 hK5 => CW.block (CW.seqK fun K6 hK6 => CW.region ?_)
         simp (maxDischargeDepth := 16) [zY, ha, lookA, hx]
         refine hK6 _ _ ?_
         refine CW.cond (t := false) (by simp [zT, zF, lk]) ?_
         refine CW.skip (hK5 _ _ ?_)
         refine CW.region ?_
         simp (maxDischargeDepth := 16) [zY, wrapS (show i ≤ 1000000000000000 by omega)]
         exact hR2 _ _ _ ⟨i + 1, _, _, rfl, by simp [sub, lk], rfl, by omega, by show lm.length - (i + 1) < lm.length - i; omega⟩
       · obtain rfl : i = lm.length := by omega
         simp (maxDischargeDepth := 16) [zY]
         refine hK4 _ _ ?_
         refine CW.cond (t := false) (by simp [zT, zF, lk]) ?_
         refine CW.exit (hR2 _ _ _ (hR _ _ _ ?_))
         simp only [outOf, if_true, andThen]
         refine hK _ _ ?_
         refine CW.seqK fun K hK => CW.region ?_
         simp (maxDischargeDepth := 16) [zY]
         refine hK _ _ ?_; clear hK K
         obtain ⟨g', rfl⟩ := q3
         exact CW.ret (hR0 _ _ _ ⟨.lit (.bool true), by simp [zA, omap, zB, zF, lk], by rw [List.append_assoc]; exact done rfl rfl⟩)
      refine CW.seqK fun K hK => CW.region ?_
      simp (maxDischargeDepth := 16) [zY]
      refine hK _ _ ?_; clear hK K
      refine CW.block (CW.hide fun R hR => ?_)
      refine CW.loopF (fun p : Nat × List (Value × AV) => [(2, .sl (atmR put) .no), (8, .ptr (σ.length + 1) 0), (16, .mp ρ.length), (19, intV p.1)]) (fun p => ρ ++ [.map .str p.2]) (fun p => p.1 ≤ put.length ∧ strK p.2 ∧ (∀ x, (mapGet (.string x) p.2).getD (.lit (.bool false)) = .lit (.bool true) ∨ (mapGet (.string x) p.2).getD (.lit (.bool false)) = .lit (.bool false)) ∧ ∀ x, (x ∈ le ∨ ∃ a ∈ put.take p.1, frA a x) → (mapGet (.string x) p.2).getD (.lit (.bool false)) = .lit (.bool true)) (fun p => put.length - p.1) (0, es) (by simp [sub, lk]) rfl ⟨by simp, hk, hb, fun x h => by
       rcases h with h | ⟨a, h1, _⟩
       · exact hin x h
       · simp at h1⟩ ?_
      clear hk hb hin
      rintro ⟨i, es⟩ tm ⟨hi, hk, hb, hin⟩
      dsimp only at hi hk hb hin ⊢
      refine CW.hide fun R2 hR2 => CW.seqK fun K3 hK3 => CW.seqK fun K4 hK4 => CW.region ?_
      rcases Nat.lt_or_ge i put.length with hlt | hge
      · have ha := atmR_get hlt
        have htk : put.take (i + 1) = put.take i ++ [put[i]] := List.take_succ_eq_append_getElem hlt
        generalize put[i] = x at ha htk
        obtain ⟨kd, nm, ng, dg, tr⟩ := x
        simp only [Atm.cs] at ha
        simp (maxDischargeDepth := 16) [zY, hlt]
        refine hK4 _ _ ?_
        refine CW.cond (t := true) (by simp [zT, zF, lk]) ?_
        refine CW.skip (hK3 _ _ ?_)
        refine CW.seqK fun K5 hK5 => CW.block (CW.draw (by kernel_rfl) ?_)
        have fin : ∀ (b : Bool) (fr : List (Nat × AV)) (tm : List AV), ((kd = 1 ∨ (mapGet (.string nm) es).getD (.lit (.bool false)) = .lit (.bool true)) → b = true) → sub [(2, .sl (atmR put) .no), (8, .ptr (σ.length + 1) 0), (16, .mp ρ.length), (19, intV i)] fr → K5 (fm 186 fr tm) (ρ ++ [.map .str (mapPut (.string nm) (.lit (.bool b)) es)]) := by
         intro b fr tm hbb hs
         rw [fm_sub hs]
         refine hK5 _ _ ?_
         refine CW.region ?_
         simp (maxDischargeDepth := 16) [zY, wrapS (show i ≤ 1000000000000000 by omega)]
         refine hR2 _ _ _ ⟨(i + 1, mapPut (.string nm) (.lit (.bool b)) es), _, _, rfl, by simp [sub, lk], rfl, ⟨by show i + 1 ≤ _; omega, hk.put nm _, fun x => ?_, fun x hx => ?_⟩, by show put.length - (i + 1) < put.length - i; omega⟩
         · dsimp only
           rw [mapGet_put hk]
           split
           · cases b
             · exact .inr rfl
             · exact .inl rfl
           · exact hb x
         · dsimp only at hx ⊢
           rw [mapGet_put hk]
           split
           · rename_i hxn
             have : b = true := by
              refine hbb ?_
              rcases hx with hx | ⟨a, h1, h2⟩
              · exact .inr (hxn ▸ hin x (.inl hx))
              · rw [htk] at h1
                rcases List.mem_append.1 h1 with h1 | h1
                · exact .inr (hxn ▸ hin x (.inr ⟨a, h1, h2⟩))
                · rw [List.mem_singleton.1 h1, frA] at h2
                  exact .inl h2.1
             rw [this]; rfl
           · rename_i hxn
             refine hin x ?_
             rcases hx with hx | ⟨a, h1, h2⟩
             · exact .inl hx
             · rw [htk] at h1
               rcases List.mem_append.1 h1 with h1 | h1
               · exact .inr ⟨a, h1, h2⟩
               · rw [List.mem_singleton.1 h1, frA] at h2
                 exact absurd h2.2 hxn
        rcases hb nm with hx | hx
        · simp (maxDischargeDepth := 16) [zY, ha, lookA, hx]
          exact ⟨drawOk_sim [ρ.length] [.pure, .pure, .pure, .pure, .pure, .pure, .pure, .pure, .pure, .pure, .pure, .pure, .reads 0, .pure, .pure, .pure, .pure, .pure, .pure, .pure, .pure, .writes 0] (.cons (by simp) .nil) (.cons .pure (.cons .pure (.cons .pure (.cons .pure (.cons .pure (.cons .pure (.cons .pure (.cons .pure (.cons .pure (.cons .pure (.cons .pure (.cons .pure (.cons (.reads 0 _ rfl) (.cons .pure (.cons .pure (.cons .pure (.cons .pure (.cons .pure (.cons .pure (.cons .pure (.cons .pure (.cons (.writes 0 _ rfl) .nil)))))))))))))))))))))) (by kernel_rfl), fin true _ _ (fun _ => rfl) (by simp [sub, lk])⟩
        · simp (maxDischargeDepth := 16) [zY, ha, lookA, hx]
          exact ⟨drawOk_sim [ρ.length] [.pure, .pure, .pure, .pure, .pure, .pure, .pure, .pure, .pure, .pure, .pure, .pure, .reads 0, .pure, .pure, .pure, .pure, .pure, .pure, .pure, .pure, .writes 0] (.cons (by simp) .nil) (.cons .pure (.cons .pure (.cons .pure (.cons .pure (.cons .pure (.cons .pure (.cons .pure (.cons .pure (.cons .pure (.cons .pure (.cons .pure (.cons .pure (.cons (.reads 0 _ rfl) (.cons .pure (.cons .pure (.cons .pure (.cons .pure (.cons .pure (.cons .pure (.cons .pure (.cons .pure (.cons (.writes 0 _ rfl) .nil)))))))))))))))))))))) (by kernel_rfl), fin (kd == 1) _ _ (fun h => by
           rcases h with h | h
           · simp [h]
           · rw [hx] at h; cases h) (by simp [sub, lk])⟩
      · obtain rfl : i = put.length := by omega
        rw [List.take_length] at hin
        simp (maxDischargeDepth := 16) [zY]
        refine hK4 _ _ ?_
        refine CW.cond (t := false) (by simp [zT, zF, lk]) ?_
        refine CW.exit (hR2 _ _ _ (hR _ _ _ ?_))
        simp only [outOf, if_true, andThen]
        exact part7 _ _ _ hin (by simp [sub, lk])
     refine CW.seqK fun K hK => CW.region ?_
     simp (maxDischargeDepth := 16) [zY]
     refine hK _ _ ?_; clear hK K
     refine CW.block (CW.hide fun R hR => ?_)
     refine CW.loopF (fun p : Nat × List (Value × AV) => [(2, .sl (atmR put) .no), (8, .ptr (σ.length + 1) 0), (16, .mp ρ.length), (17, .sl (txtR le) .no), (18, intV p.1)]) (fun p => ρ ++ [.map .str p.2]) (fun p => p.1 ≤ le.length ∧ strK p.2 ∧ (∀ x, (mapGet (.string x) p.2).getD (.lit (.bool false)) = .lit (.bool true) ∨ (mapGet (.string x) p.2).getD (.lit (.bool false)) = .lit (.bool false)) ∧ ∀ x ∈ le.take p.1, (mapGet (.string x) p.2).getD (.lit (.bool false)) = .lit (.bool true)) (fun p => le.length - p.1) (0, []) (by simp [sub, lk]) rfl ⟨by simp, (fun p hp => by cases hp), fun x => .inr rfl, by simp⟩ ?_
     rintro ⟨i, es⟩ tm ⟨hi, hk, hb, hin⟩
     dsimp only at hi hk hb hin ⊢
     refine CW.hide fun R2 hR2 => CW.seqK fun K3 hK3 => CW.seqK fun K4 hK4 => CW.region ?_
     rcases Nat.lt_or_ge i le.length with hlt | hge
     · have ha := txtR_get hlt
       have htk : le.take (i + 1) = le.take i ++ [le[i]] := List.take_succ_eq_append_getElem hlt
       generalize le[i] = x at ha htk
       simp (maxDischargeDepth := 16) [zY, hlt]
       refine hK4 _ _ ?_
       refine CW.cond (t := true) (by simp [zT, zF, lk]) ?_
       refine CW.skip (hK3 _ _ ?_)
       refine CW.seqK fun K5 hK5 => CW.block (CW.region ?_)
       simp (maxDischargeDepth := 16) [zY, ha]
       refine hK5 _ _ ?_
       refine CW.region ?_
       simp (maxDischargeDepth := 16) [zY, wrapS (show i ≤ 1000000000000000 by omega)]
       refine hR2 _ _ _ ⟨(i + 1, mapPut (.string x) (.lit (.bool true)) es), _, _, rfl, by simp [sub, lk], rfl, ⟨by show i + 1 ≤ _; omega, hk.put x _, fun y => ?_, fun y hy => ?_⟩, by show le.length - (i + 1) < le.length - i; omega⟩
       · dsimp only
         rw [mapGet_put hk]
         split
         · exact .inl rfl
         · exact hb y
       · dsimp only at hy ⊢
         rw [mapGet_put hk]
         split
         · rfl
         · rename_i hxn
           rw [htk] at hy
           rcases List.mem_append.1 hy with hy | hy
           · exact hin y hy
           · exact absurd (List.mem_singleton.1 hy) hxn
     · obtain rfl : i = le.length := by omega
       rw [List.take_length] at hin
       simp (maxDischargeDepth := 16) [zY]
       refine hK4 _ _ ?_
       refine CW.cond (t := false) (by simp [zT, zF, lk]) ?_
       refine CW.exit (hR2 _ _ _ (hR _ _ _ ?_))
       simp only [outOf, if_true, andThen]
       exact part6 _ _ _ hk hb hin (by simp [sub, lk])
    clear hK7 hK6
    simp (maxDischargeDepth := 16) [zY, el, et, ep, fl, ft, fp, sl, stk, ol, ot, hg0, hg1]
    refine cp _ _ fun hac1 => ?_
    generalize hb1 : e.pl = b1 at hac1 hself ⊢
    cases b1 with
    | false =>
     simp (maxDischargeDepth := 16) [zY, hac1, el, et, ep, fl, ft, fp, sl, stk, ol, ot, hg0, hg1]
     refine cst _ _ fun hac3 => ?_
     generalize hb2 : standsB e = b2 at hac3 hodd ⊢
     cases b2 with
     | false =>
      simp (maxDischargeDepth := 16) [zY, hac1, hac3, el, et, ep, fl, ft, fp, sl, stk, ol, ot, hg0, hg1]
      refine cc f _ _ _ hw1 fun hac5 => ?_
      rw [hcnt] at hac5 ⊢
      simp (maxDischargeDepth := 16) [zY, hac1, hac3, hac5, el, et, ep, fl, ft, fp, sl, stk, ol, ot, hg0, hg1]
      refine cc e _ _ _ hw4 fun hac6 => ?_
      simp (maxDischargeDepth := 16) [zY, hac1, hac3, hac5, hac6, el, et, ep, fl, ft, fp, sl, stk, ol, ot, hg0, hg1]
      exact ⟨drawOk_sim [σ.length, σ.length + (g.length + 1 + 1), σ.length + (g.length + 1 + 1 + 1), σ.length + 1] [.pure, .pure, .pure, .reads 0, .lcalls (fun _ => true), .pure, .pure, .pure, .pure, .pure, .pure, .pure, .pure, .pure, .pure, .pure, .pure, .reads 0, .lcalls (fun _ => true), .pure, .pure, .pure, .pure, .pure, .pure, .pure, .pure, .reads 3, .pure, .lcalls (fun _ => true), .reads 0, .pure, .lcalls (fun _ => true), .pure, .pure] (.cons (by simp) (.cons (by simp) (.cons (by simp) (.cons (by simp) .nil)))) (.cons .pure (.cons .pure (.cons .pure (.cons (.reads 0 _ rfl) (.cons (.lcalls _ _ fun i a ha hi => rfl) (.cons .pure (.cons .pure (.cons .pure (.cons .pure (.cons .pure (.cons .pure (.cons .pure (.cons .pure (.cons .pure (.cons .pure (.cons .pure (.cons .pure (.cons (.reads 0 _ rfl) (.cons (.lcalls _ _ fun i a ha hi => rfl) (.cons .pure (.cons .pure (.cons .pure (.cons .pure (.cons .pure (.cons .pure (.cons .pure (.cons .pure (.cons (.reads 3 _ rfl) (.cons .pure (.cons (.lcalls _ _ fun i a ha hi => rfl) (.cons (.reads 0 _ rfl) (.cons .pure (.cons (.lcalls _ _ fun i a ha hi => rfl) (.cons .pure (.cons .pure .nil))))))))))))))))))))))))))))))))))) (by kernel_rfl), part5 _ _ (by simp [sub, lk])⟩
     | true =>
      simp (maxDischargeDepth := 16) [zY, hac1, hac3, el, et, ep, fl, ft, fp, sl, stk, ol, ot, hg0, hg1]
      refine cs od e _ _ hw3 hw4 fun hac4 => ?_
      rw [hodd rfl] at hac4 ⊢
      simp (maxDischargeDepth := 16) [zY, hac1, hac3, hac4, el, et, ep, fl, ft, fp, sl, stk, ol, ot, hg0, hg1]
      refine cc f _ _ _ hw1 fun hac5 => ?_
      rw [hcnt] at hac5 ⊢
      simp (maxDischargeDepth := 16) [zY, hac1, hac3, hac4, hac5, el, et, ep, fl, ft, fp, sl, stk, ol, ot, hg0, hg1]
      refine cc e _ _ _ hw4 fun hac6 => ?_
      simp (maxDischargeDepth := 16) [zY, hac1, hac3, hac4, hac5, hac6, el, et, ep, fl, ft, fp, sl, stk, ol, ot, hg0, hg1]
      exact ⟨drawOk_sim [σ.length, σ.length + (g.length + 1 + 1), σ.length + (g.length + 1 + 1 + 1), σ.length + 1] [.pure, .pure, .pure, .reads 0, .lcalls (fun _ => true), .pure, .pure, .pure, .pure, .pure, .pure, .pure, .pure, .pure, .pure, .pure, .pure, .reads 0, .lcalls (fun _ => true), .pure, .reads 2, .reads 0, .lcalls (fun _ => true), .pure, .pure, .pure, .pure, .reads 3, .pure, .lcalls (fun _ => true), .reads 0, .pure, .lcalls (fun _ => true), .pure, .pure] (.cons (by simp) (.cons (by simp) (.cons (by simp) (.cons (by simp) .nil)))) (.cons .pure (.cons .pure (.cons .pure (.cons (.reads 0 _ rfl) (.cons (.lcalls _ _ fun i a ha hi => rfl) (.cons .pure (.cons .pure (.cons .pure (.cons .pure (.cons .pure (.cons .pure (.cons .pure (.cons .pure (.cons .pure (.cons .pure (.cons .pure (.cons .pure (.cons (.reads 0 _ rfl) (.cons (.lcalls _ _ fun i a ha hi => rfl) (.cons .pure (.cons (.reads 2 _ rfl) (.cons (.reads 0 _ rfl) (.cons (.lcalls _ _ fun i a ha hi => rfl) (.cons .pure (.cons .pure (.cons .pure (.cons .pure (.cons (.reads 3 _ rfl) (.cons .pure (.cons (.lcalls _ _ fun i a ha hi => rfl) (.cons (.reads 0 _ rfl) (.cons .pure (.cons (.lcalls _ _ fun i a ha hi => rfl) (.cons .pure (.cons .pure .nil))))))))))))))))))))))))))))))))))) (by kernel_rfl), part5 _ _ (by simp [sub, lk])⟩
    | true =>
     simp (maxDischargeDepth := 16) [zY, hac1, el, et, ep, fl, ft, fp, sl, stk, ol, ot, hg0, hg1]
     refine cs s e _ _ hw2 hw4 fun hac2 => ?_
     rw [hself rfl] at hac2 ⊢
     simp (maxDischargeDepth := 16) [zY, hac1, hac2, el, et, ep, fl, ft, fp, sl, stk, ol, ot, hg0, hg1]
     refine cst _ _ fun hac3 => ?_
     generalize hb2 : standsB e = b2 at hac3 hodd ⊢
     cases b2 with
     | false =>
      simp (maxDischargeDepth := 16) [zY, hac1, hac2, hac3, el, et, ep, fl, ft, fp, sl, stk, ol, ot, hg0, hg1]
      refine cc f _ _ _ hw1 fun hac5 => ?_
      rw [hcnt] at hac5 ⊢
      simp (maxDischargeDepth := 16) [zY, hac1, hac2, hac3, hac5, el, et, ep, fl, ft, fp, sl, stk, ol, ot, hg0, hg1]
      refine cc e _ _ _ hw4 fun hac6 => ?_
      simp (maxDischargeDepth := 16) [zY, hac1, hac2, hac3, hac5, hac6, el, et, ep, fl, ft, fp, sl, stk, ol, ot, hg0, hg1]
      exact ⟨drawOk_sim [σ.length, σ.length + (g.length + 1 + 1), σ.length + (g.length + 1 + 1 + 1), σ.length + 1] [.pure, .pure, .pure, .reads 0, .lcalls (fun _ => true), .pure, .reads 1, .reads 0, .lcalls (fun _ => true), .pure, .pure, .pure, .pure, .pure, .pure, .pure, .pure, .reads 0, .lcalls (fun _ => true), .pure, .pure, .pure, .pure, .pure, .pure, .pure, .pure, .reads 3, .pure, .lcalls (fun _ => true), .reads 0, .pure, .lcalls (fun _ => true), .pure, .pure] (.cons (by simp) (.cons (by simp) (.cons (by simp) (.cons (by simp) .nil)))) (.cons .pure (.cons .pure (.cons .pure (.cons (.reads 0 _ rfl) (.cons (.lcalls _ _ fun i a ha hi => rfl) (.cons .pure (.cons (.reads 1 _ rfl) (.cons (.reads 0 _ rfl) (.cons (.lcalls _ _ fun i a ha hi => rfl) (.cons .pure (.cons .pure (.cons .pure (.cons .pure (.cons .pure (.cons .pure (.cons .pure (.cons .pure (.cons (.reads 0 _ rfl) (.cons (.lcalls _ _ fun i a ha hi => rfl) (.cons .pure (.cons .pure (.cons .pure (.cons .pure (.cons .pure (.cons .pure (.cons .pure (.cons .pure (.cons (.reads 3 _ rfl) (.cons .pure (.cons (.lcalls _ _ fun i a ha hi => rfl) (.cons (.reads 0 _ rfl) (.cons .pure (.cons (.lcalls _ _ fun i a ha hi => rfl) (.cons .pure (.cons .pure .nil))))))))))))))))))))))))))))))))))) (by kernel_rfl), part5 _ _ (by simp [sub, lk])⟩
     | true =>
      simp (maxDischargeDepth := 16) [zY, hac1, hac2, hac3, el, et, ep, fl, ft, fp, sl, stk, ol, ot, hg0, hg1]
      refine cs od e _ _ hw3 hw4 fun hac4 => ?_
      rw [hodd rfl] at hac4 ⊢
      simp (maxDischargeDepth := 16) [zY, hac1, hac2, hac3, hac4, el, et, ep, fl, ft, fp, sl, stk, ol, ot, hg0, hg1]
      refine cc f _ _ _ hw1 fun hac5 => ?_
      rw [hcnt] at hac5 ⊢
      simp (maxDischargeDepth := 16) [zY, hac1, hac2, hac3, hac4, hac5, el, et, ep, fl, ft, fp, sl, stk, ol, ot, hg0, hg1]
      refine cc e _ _ _ hw4 fun hac6 => ?_
      simp (maxDischargeDepth := 16) [zY, hac1, hac2, hac3, hac4, hac5, hac6, el, et, ep, fl, ft, fp, sl, stk, ol, ot, hg0, hg1]
      exact ⟨drawOk_sim [σ.length, σ.length + (g.length + 1 + 1), σ.length + (g.length + 1 + 1 + 1), σ.length + 1] [.pure, .pure, .pure, .reads 0, .lcalls (fun _ => true), .pure, .reads 1, .reads 0, .lcalls (fun _ => true), .pure, .pure, .pure, .pure, .pure, .pure, .pure, .pure, .reads 0, .lcalls (fun _ => true), .pure, .reads 2, .reads 0, .lcalls (fun _ => true), .pure, .pure, .pure, .pure, .reads 3, .pure, .lcalls (fun _ => true), .reads 0, .pure, .lcalls (fun _ => true), .pure, .pure] (.cons (by simp) (.cons (by simp) (.cons (by simp) (.cons (by simp) .nil)))) (.cons .pure (.cons .pure (.cons .pure (.cons (.reads 0 _ rfl) (.cons (.lcalls _ _ fun i a ha hi => rfl) (.cons .pure (.cons (.reads 1 _ rfl) (.cons (.reads 0 _ rfl) (.cons (.lcalls _ _ fun i a ha hi => rfl) (.cons .pure (.cons .pure (.cons .pure (.cons .pure (.cons .pure (.cons .pure (.cons .pure (.cons .pure (.cons (.reads 0 _ rfl) (.cons (.lcalls _ _ fun i a ha hi => rfl) (.cons .pure (.cons (.reads 2 _ rfl) (.cons (.reads 0 _ rfl) (.cons (.lcalls _ _ fun i a ha hi => rfl) (.cons .pure (.cons .pure (.cons .pure (.cons .pure (.cons (.reads 3 _ rfl) (.cons .pure (.cons (.lcalls _ _ fun i a ha hi => rfl) (.cons (.reads 0 _ rfl) (.cons .pure (.cons (.lcalls _ _ fun i a ha hi => rfl) (.cons .pure (.cons .pure .nil))))))))))))))))))))))))))))))))))) (by kernel_rfl), part5 _ _ (by simp [sub, lk])⟩
   refine CW.seqK fun K hK => CW.region ?_
   simp (maxDischargeDepth := 16) [zY]
   refine hK _ _ ?_; clear hK K
   refine CW.block (CW.hide fun R hR => ?_)
   refine CW.loopF (fun p : Nat × Tok × List AObj => [(1, .sl (txtR names) .no), (2, .sl (atmR put) .no), (3, .ptr σ.length 0), (8, .ptr (σ.length + 1) 0), (10, .sl (atmR ((names.take p.1).map aV)) p.2.1), (11, intV p.1)]) (fun p => σ ++ (.cells e.cs 34 :: .cells f.cs 34 :: p.2.2)) (fun p => p.1 ≤ names.length ∧ Apd (σ ++ [.cells e.cs 34, .cells f.cs 34]) 30 (p.1 * 5) p.2.1 p.2.2) (fun p => names.length - p.1) (0, .full, []) (by simp [sub, lk, atmR]) rfl ⟨by simp, Apd.nil _ _ []⟩ ?_
   rintro ⟨i, tok, g⟩ tm ⟨hi, hA⟩
   dsimp only at hi hA ⊢
   refine CW.hide fun R2 hR2 => CW.seqK fun K3 hK3 => CW.seqK fun K4 hK4 => CW.region ?_
   rcases Nat.lt_or_ge i names.length with hlt | hge
   · have ha := txtR_get hlt
     have htk : (names.take (i + 1)).map aV = (names.take i).map aV ++ [aV names[i]] := by rw [List.take_succ_eq_append_getElem hlt, List.map_append]; rfl
     have htl : ((names.take i).map aV).length = i := by rw [List.length_map]; exact List.length_take_of_le (by omega)
     generalize names[i] = x at ha htk
     generalize (names.take i).map aV = L at htk htl ⊢
     obtain ⟨tok', g', acc, hA', hap2⟩ := apdX (P := Tryz.prog) (M := []) (σ := σ ++ [.cells e.cs 34, .cells f.cs 34]) (t := 36) (e := 30) (k := 4) (by_ := 64) (atmR L) [(aV x).cs] (by rw [atmR_len, htl]; exact hA) (by kernel_rfl) (by kernel_rfl) (by kernel_rfl) (by kernel_rfl) (atmR_hd _) (by simp [(aV x).len]) (by simp only [atmR_len, htl, List.length_singleton]; omega) (by simp only [atmR_len, htl, List.length_singleton]; omega)
     simp only [List.append_assoc, List.cons_append, List.nil_append, atm_stp1, atmR_len, htl, List.length_singleton] at hap2 hA'
     simp (maxDischargeDepth := 16) [zY, hlt]
     refine hK4 _ _ ?_
     refine CW.cond (t := true) (by simp [zT, zF, lk]) ?_
     refine CW.skip (hK3 _ _ ?_)
     refine CW.seqK fun K5 hK5 => CW.block (CW.region ?_)
     simp (maxDischargeDepth := 16) [zY, ha]
     refine cv x _ _ ?_
     have xl := (aV x).len; have xt := (aV x).tk; have xp := fun z => (aV x).put (z := z)
     generalize hxc : (aV x).cs = xc at xl xt xp hap2 ⊢
     simp (maxDischargeDepth := 16) [zY, xl, xt, xp, hap2]
     refine hK5 _ _ ?_
     refine CW.region ?_
     simp (maxDischargeDepth := 16) [zY, wrapS (show i ≤ 1000000000000000 by omega)]
     exact hR2 _ _ _ ⟨(i + 1, tok', g'), _, _, rfl, by simp [sub, lk, htk, atmR_map, hxc], rfl, ⟨by show i + 1 ≤ _; omega, hA'⟩, by show names.length - (i + 1) < names.length - i; omega⟩
   · obtain rfl : i = names.length := by omega
     rw [List.take_length]
     simp (maxDischargeDepth := 16) [zY]
     refine hK4 _ _ ?_
     refine CW.cond (t := false) (by simp [zT, zF, lk]) ?_
     refine CW.exit (hR2 _ _ _ (hR _ _ _ ?_))
     simp only [outOf, if_true, andThen]
     exact part4 tok g _ _ (by simp [sub, lk])
  refine CW.seqK fun K hK => CW.region ?_
  simp (maxDischargeDepth := 16) [zY]
  refine hK _ _ ?_; clear hK K
  refine CW.block (CW.hide fun R hR => ?_)
  refine CW.loopF (fun i : Nat => [(1, .sl (txtR names) .no), (2, .sl (atmR put) .no), (3, .ptr σ.length 0), (7, intV i)]) (fun _ => σ ++ [.cells e.cs 34]) (fun i => i ≤ put.length ∧ ∀ a ∈ put.take i, a.n ≤ 101) (fun i => put.length - i) 0 (by simp [sub, lk]) rfl ⟨by simp, by simp⟩ ?_
  rintro i tm ⟨hi, hg⟩
  refine CW.hide fun R2 hR2 => CW.seqK fun K3 hK3 => CW.seqK fun K4 hK4 => CW.region ?_
  rcases Nat.lt_or_ge i put.length with hlt | hge
  · have ha := atmR_get hlt
    have htk : put.take (i + 1) = put.take i ++ [put[i]] := List.take_succ_eq_append_getElem hlt
    generalize put[i] = x at ha htk
    obtain ⟨k, nm, ng, dg, tr⟩ := x
    simp only [Atm.cs] at ha
    simp (maxDischargeDepth := 16) [zY, hlt]
    refine hK4 _ _ ?_
    refine CW.cond (t := true) (by simp [zT, zF, lk]) ?_
    refine CW.skip (hK3 _ _ ?_)
    refine CW.seqK fun K5 hK5 => CW.block (CW.seqK fun K6 hK6 => CW.region ?_)
    rcases Nat.lt_or_ge 100 dg.length with hd | hd
    · have hd' : ((100 : Int) < (dg.length : Int)) = True := eq_true (by omega)
      simp (maxDischargeDepth := 16) [zY, ha, limR_len, hd']
      refine hK6 _ _ ?_
      refine CW.cond (t := true) (by simp [zT, zF, lk, hd']) ?_
      refine CW.seqK fun K hK => CW.region ?_
      simp (maxDischargeDepth := 16) [zY]
      refine hK _ _ ?_; clear hK K
      exact CW.ret (hR2 _ _ _ (hR _ _ _ (hR0 _ _ _ ⟨.lit (.bool true), by simp [zA, omap, zB, zF, lk], done rfl rfl⟩)))
    · have hd' : ((100 : Int) < (dg.length : Int)) = False := eq_false (by omega)
      simp (maxDischargeDepth := 16) [zY, ha, limR_len, hd']
      refine hK6 _ _ ?_
      refine CW.cond (t := false) (by simp [zT, zF, lk, hd']) ?_
      refine CW.skip (hK5 _ _ ?_)
      refine CW.region ?_
      simp (maxDischargeDepth := 16) [zY, wrapS (show i ≤ 1000000000000000 by omega)]
      exact hR2 _ _ _ ⟨i + 1, _, _, rfl, by simp [sub, lk], rfl, ⟨by show i + 1 ≤ _; omega, fun a ha => by
       rw [htk] at ha
       rcases List.mem_append.1 ha with ha | ha
       · exact hg a ha
       · rw [List.mem_singleton.1 ha]; simp only [Atm.n]; omega⟩, by show put.length - (i + 1) < put.length - i; omega⟩
  · obtain rfl : i = put.length := by omega
    rw [List.take_length] at hg
    simp (maxDischargeDepth := 16) [zY]
    refine hK4 _ _ ?_
    refine CW.cond (t := false) (by simp [zT, zF, lk]) ?_
    refine CW.exit (hR2 _ _ _ (hR _ _ _ ?_))
    simp only [outOf, if_true, andThen]
    exact part3 hg _ _ (by simp [sub, lk])
 have call : ∀ (Q : ARes → Sto → Prop) (σ2 : Sto) (tok : Tok), (∀ v, v = decide (expsGo [e] 2000 0 > 2000) → Q (.ret (.lit (.bool v))) σ2) → CallW Tryz.prog (S.E N) 6 [.sl [e.cs] tok] σ2 Q := fun Q σ2 tok h => call_sm [e] hG lgreat_inj (by simp [nrmR, AV.nrm, nrmRR, Exp.nrm, expR]) ⟨by simp, expSm_of _ (by omega)⟩ (by omega) fun _ => h _ rfl
 refine CW.seqK fun K2 hK2 => CW.region ?_
 simp (maxDischargeDepth := 16) [zY, Exp.len, Exp.tk, Exp.put]
 refine call _ _ _ fun g hg => ?_
 cases g with
 | true =>
  simp (maxDischargeDepth := 16) [zY]
  refine hK2 _ _ ?_
  refine CW.cond (t := true) (by simp [zT, zF, lk]) ?_
  refine CW.seqK fun K hK => CW.region ?_
  simp (maxDischargeDepth := 16) [zY]
  refine hK _ _ ?_; clear hK K
  exact CW.ret (hR0 _ _ _ ⟨.lit (.bool true), by simp [zA, omap, zB, zF, lk], done rfl rfl⟩)
 | false =>
  have hg2 := great_n (e := e) (by omega) (of_decide_eq_false hg.symm)
  rcases Nat.lt_or_ge 100 names.length with hn | hn
  · have hn' : ((100 : Int) < (names.length : Int)) = True := eq_true (by omega)
    simp (maxDischargeDepth := 16) [zY, hn', txtR_len]
    refine hK2 _ _ ?_
    refine CW.cond (t := true) (by simp [zT, zF, lk, hn']) ?_
    refine CW.seqK fun K hK => CW.region ?_
    simp (maxDischargeDepth := 16) [zY]
    refine hK _ _ ?_; clear hK K
    exact CW.ret (hR0 _ _ _ ⟨.lit (.bool true), by simp [zA, omap, zB, zF, lk], done rfl rfl⟩)
  have hn' : ((100 : Int) < (names.length : Int)) = False := eq_false (by omega)
  rcases Nat.lt_or_ge 100 put.length with hp | hp
  · have hp' : ((100 : Int) < (put.length : Int)) = True := eq_true (by omega)
    simp (maxDischargeDepth := 16) [zY, hn', hp', txtR_len, atmR_len]
    refine hK2 _ _ ?_
    refine CW.cond (t := true) (by simp [zT, zF, lk, hn', hp']) ?_
    refine CW.seqK fun K hK => CW.region ?_
    simp (maxDischargeDepth := 16) [zY]
    refine hK _ _ ?_; clear hK K
    exact CW.ret (hR0 _ _ _ ⟨.lit (.bool true), by simp [zA, omap, zB, zF, lk], done rfl rfl⟩)
  have hp' : ((100 : Int) < (put.length : Int)) = False := eq_false (by omega)
  simp (maxDischargeDepth := 16) [zY, hn', hp', txtR_len, atmR_len]
  refine hK2 _ _ ?_
  refine CW.cond (t := false) (by simp [zT, zF, lk, hn', hp']) ?_
  refine CW.skip (part2 hg2 hn hp _ _ ?_)
  simp [sub, lk]
end Go.Proofs.YtncoidmbmihliaaGreatDoor
