/-
 EV: the statements of layer 19: free.
-/
import Derived.Test.YteajcnilihgheaaGreatDoorRb3M
import Derived.Test.YteajcnilihgheaaGreatDoorTFree2M
namespace Go.Proofs.YteajcnilihgheaaGreatDoor
set_option maxRecDepth 100000
set_option maxHeartbeats 8000000
set_option linter.unusedSimpArgs false
set_option linter.unusedVariables false
section
open Go.RowKit
variable {S : Sp} {N : Nat}
structure LfPre (p : Fun × Fun × List ByteArray) : Prop where
 w1 : (lamE p.1).w ≤ 100000000000
 w2 : (lamE p.2.1).w ≤ 100000000000
 n1 : (lamE p.1).n ≤ 1000000000
 ul : p.2.2.length ≤ 1000000000
 im : (∀ x ∈ setL (frE (lamE p.1)), x ∈ p.2.2) → setL (frE (lamE p.1)) = setL (frE (lamE p.2.1))
noncomputable abbrev lfreeF : FS := smF (fun p : Fun × Fun × List ByteArray => [.agg p.1.cs, .agg p.2.1.cs, .sl (txtR p.2.2) .no]) (fun _ => .lit (.bool true)) LfPre (fun p => (lamE p.1).w + (lamE p.2.1).w + (lamE p.1).n) 11
theorem lfree_w (hc : S.code = codeP Tryz.prog) (hm : S.ms 19 = []) (hL : S.sp 39 = some lamF) (hF : S.sp 38 = some treeFreeF) (hT : S.sp 17 = some (sameF (fun l => .sl (txtR l) .no) List.length 0)) :
    SmOk Tryz.prog S N 19 (fun p : Fun × Fun × List ByteArray => [.agg p.1.cs, .agg p.2.1.cs, .sl (txtR p.2.2) .no]) (fun _ => .lit (.bool true)) LfPre (fun p => (lamE p.1).w + (lamE p.2.1).w + (lamE p.1).n) 11 := by
 rintro ⟨f, g, u⟩ σ ⟨hw1, hw2, hn1, hul, him⟩ hN
 dsimp only at hw1 hw2 hn1 hul him hN ⊢
 refine JC.startF (fn := Tryz.f19) (codeOf hc Tryz.func19 rfl (by kernel_rfl)) rfl hm rfl (zL rfl) fun tm => ?_
 refine CW.hide fun R0 hR0 => ?_
 have mk2 := fun (ρ : Operand → Option AV) (σ : Sto) (ds : Option Tmp) (ty : TypeId) (po : String) (af : Array Edge) (gu : Option (Nat × Bool)) => es_mk (P := Tryz.prog) (M := []) (ρ := ρ) (σ := σ) (t := 66) (kt := 9) (e := 4) (q := .str) (ds := ds) (ty := ty) (po := po) (af := af) (gu := gu) (by kernel_rfl) (by kernel_rfl)
 refine CW.seqK fun K hK => CW.region ?_
 simp (maxDischargeDepth := 16) [zY, Fun.len, Fun.tk, Fun.put]
 refine hK _ _ ?_; clear hK K
 refine CW.seqK fun K hK => CW.region ?_
 simp (maxDischargeDepth := 16) [zY, mk2]
 refine hK _ _ ?_; clear hK K
 have g0 : (σ ++ [AObj.cells f.cs 58, AObj.cells g.cs 58, AObj.map .str []])[σ.length]? = some (AObj.cells f.cs 58) := by simp
 have g1 : (σ ++ [AObj.cells f.cs 58, AObj.cells g.cs 58, AObj.map .str []])[σ.length + 1]? = some (AObj.cells g.cs 58) := by simp
 have g2 : (σ ++ [AObj.cells f.cs 58, AObj.cells g.cs 58, AObj.map .str []])[σ.length + 2]? = some (AObj.map .str []) := by simp
 have hex : ∀ o, ∃ τ, (σ ++ [AObj.cells f.cs 58, AObj.cells g.cs 58, AObj.map .str []]).set (σ.length + 2) o = σ ++ τ := fun o => ⟨_, List.set_append_right _ _ (by omega)⟩
 generalize σ ++ [_, _, _] = σa at *
 generalize σ.length = P at *
 refine CW.keep [2, 3, 4, 7] fun tm => ?_
 simp only [sel, List.contains_cons, List.contains_nil, Bool.or_false, Nat.reduceBEq, Bool.false_eq_true, if_false, if_true, Bool.or_true, Bool.true_or]
 refine CW.seqK fun KL hKL => ?_
 refine CW.seqK fun K hK => CW.region ?_
 simp (maxDischargeDepth := 16) [zY]
 refine hK _ _ ?_; clear hK K
 refine CW.block (CW.hide fun R hR => ?_)
 have hset : σa.set (P + 2) (.map .str []) = σa := by
  obtain ⟨q, e⟩ := List.getElem?_eq_some_iff.1 g2
  rw [← e, List.set_getElem_self]
 refine CW.loopF (fun p : Nat × List (Value × AV) => [(2, .sl (txtR u) .no), (3, .ptr P 0), (4, .ptr (P + 1) 0), (7, .mp (P + 2)), (8, intV p.1)]) (fun p => σa.set (P + 2) (.map .str p.2)) (fun p => p.1 ≤ u.length ∧ isOk (u.take p.1) p.2) (fun p => u.length - p.1) (0, []) (by simp [sub, lk]) hset.symm ⟨by simp, ⟨(by intro p hp; cases hp), fun s => .inr ⟨by simp, rfl⟩⟩⟩ ?_
 rintro ⟨i, is⟩ tm ⟨hi, hk⟩
 dsimp only at hi hk ⊢
 have hil : P + 2 < σa.length := (List.getElem?_eq_some_iff.1 g2).1
 have h0' : (σa.set (P + 2) (.map .str is))[P]? = some (AObj.cells f.cs 58) := by rw [List.getElem?_set_ne (by omega)]; exact g0
 have h1' : (σa.set (P + 2) (.map .str is))[P + 1]? = some (AObj.cells g.cs 58) := by rw [List.getElem?_set_ne (by omega)]; exact g1
 have h2' : (σa.set (P + 2) (.map .str is))[P + 2]? = some (.map .str is) := by rw [List.getElem?_set_self hil]
 have hss : ∀ is', (σa.set (P + 2) (.map .str is)).set (P + 2) (.map .str is') = σa.set (P + 2) (.map .str is') := fun is' => List.set_set ..
 have hex' := hex (.map .str is)
 generalize hσ1 : σa.set (P + 2) (.map .str is) = σ1 at *
 refine CW.hide fun R2 hR2 => CW.seqK fun K3 hK3 => CW.seqK fun K4 hK4 => CW.region ?_
 rcases Nat.lt_or_ge i u.length with hlt | hge
 · simp (maxDischargeDepth := 16) [zY, hlt]
   refine hK4 _ _ ?_
   refine CW.cond (t := true) (by simp [zT, zF, lk]) ?_
   refine CW.skip (hK3 _ _ ?_)
   refine CW.seqK fun K5 hK5 => CW.block ?_
   have ha := txtR_get hlt
   refine CW.region ?_
   simp (maxDischargeDepth := 16) [zY, ha, h2', AV.notTup]
   refine hK5 _ _ ?_
   rw [hss]
   refine CW.region ?_
   simp (maxDischargeDepth := 16) [zY, wrap_succ (show i ≤ 1000000000000 by omega)]
   refine hR2 _ _ _ ⟨(i + 1, mapPut (.string u[i]) (.lit (.bool true)) is), _, _, rfl, by simp [sub, lk], rfl, ⟨by show i + 1 ≤ u.length; omega, ?_⟩, by show u.length - (i + 1) < u.length - i; omega⟩
   show isOk (u.take (i + 1)) _
   rw [List.take_succ_eq_append_getElem hlt]
   exact hk.put _
 · obtain rfl : i = u.length := by omega
   rw [List.take_length] at hk
   simp (maxDischargeDepth := 16) [zY, Nat.not_lt.2 hge]
   refine hK4 _ _ ?_
   refine CW.cond (t := false) (by simp [zT, zF, lk]) ?_
   refine CW.exit (hR2 _ _ _ (hR _ _ _ ?_))
   simp only [outOf, if_true, andThen]
   refine hKL _ _ ?_
   clear hK3 hK4 hR2 hKL hR R2 R KL K3
   have hfl := free_len (lamE f)
   refine CW.seqK fun K hK => CW.draw (by kernel_rfl) ?_
   simp (maxDischargeDepth := 16) [zY, h0', h1', Fun.len, Fun.tk, Fun.put]
   refine call_sm f hL fun1_inj (by simp only [nrmR, AV.nrm, Fun.nrm]) trivial (by omega) fun hac => ?_
   simp (maxDischargeDepth := 16) [zY, hac, h0', h1', Fun.len, Fun.tk, Fun.put, Exp.len, Exp.tk, Exp.put]
   refine call_sm (lamE f) hF (fun a b h => Exp.inj (by simpa using h)) (by simp [nrmR, AV.nrm, Exp.nrm]) (by omega) (by omega) fun hac => ?_
   generalize setL (frE (lamE f)) = l1 at *
   simp (maxDischargeDepth := 16) [zY, hac, h0', h1', Fun.len, Fun.tk, Fun.put]
   refine call_sm g hL fun1_inj (by simp only [nrmR, AV.nrm, Fun.nrm]) trivial (by omega) fun hac => ?_
   simp (maxDischargeDepth := 16) [zY, hac, h0', h1', Fun.len, Fun.tk, Fun.put, Exp.len, Exp.tk, Exp.put]
   refine call_sm (lamE g) hF (fun a b h => Exp.inj (by simpa using h)) (by simp [nrmR, AV.nrm, Exp.nrm]) (by omega) (by omega) fun hac => ?_
   generalize setL (frE (lamE g)) = l2 at *
   simp (maxDischargeDepth := 16) [zY, hac, h0', h1']
   refine ⟨drawOk_sim [P, P + 1] [.reads 0, .lcalls (fun _ => true), .lcalls (fun _ => true), .reads 1, .lcalls (fun _ => true), .lcalls (fun _ => true), .pure, .pure] (.cons (by simp) (.cons (by simp) .nil)) (.cons (.reads 0 _ rfl) (.cons (.lcalls _ _ fun i a ha hi => rfl) (.cons (.lcalls _ _ fun i a ha hi => rfl) (.cons (.reads 1 _ rfl) (.cons (.lcalls _ _ fun i a ha hi => rfl) (.cons (.lcalls _ _ fun i a ha hi => rfl) (.cons .pure (.cons .pure .nil)))))))) (by kernel_rfl), hK _ _ ?_⟩; clear hK K
   refine CW.keep [7, 9, 10] fun tm => ?_
   simp only [sel, List.contains_cons, List.contains_nil, Bool.or_false, Nat.reduceBEq, Bool.false_eq_true, if_false, if_true, Bool.or_true, Bool.true_or]
   refine CW.seqK fun KL hKL => ?_
   refine CW.seqK fun K hK => CW.region ?_
   simp (maxDischargeDepth := 16) [zY]
   refine hK _ _ ?_; clear hK K
   refine CW.block (CW.hide fun R hR => ?_)
   refine CW.loopF (fun i : Nat => [(7, .mp (P + 2)), (9, .sl (txtR l1) .no), (10, .sl (txtR l2) .no), (11, intV i)]) (fun _ => σ1) (fun i => i ≤ l1.length ∧ ∀ x ∈ l1.take i, x ∈ u) (fun i => l1.length - i) 0 (by simp [sub, lk]) rfl ⟨by simp, by simp⟩ ?_
   rintro i tm ⟨hi, hg⟩
   refine CW.hide fun R2 hR2 => CW.seqK fun K3 hK3 => CW.seqK fun K4 hK4 => CW.region ?_
   rcases Nat.lt_or_ge i l1.length with hlt | hge
   · simp (maxDischargeDepth := 16) [zY, hlt]
     refine hK4 _ _ ?_
     refine CW.cond (t := true) (by simp [zT, zF, lk]) ?_
     refine CW.skip (hK3 _ _ ?_)
     refine CW.seqK fun K5 hK5 => CW.block (CW.seqK fun K6 hK6 => CW.region ?_)
     have ha := txtR_get hlt
     have htk := List.take_succ_eq_append_getElem hlt
     generalize l1[i] = x at ha htk
     rcases hk.2 x with ⟨hx, hgx⟩ | ⟨hx, hgx⟩
     · have hg2 : (mapGet (.string x) is).getD (.lit (.bool false)) = .lit (.bool true) := by rw [hgx]; rfl
       simp (maxDischargeDepth := 16) [zY, ha, h2', hg2]
       refine hK6 _ _ ?_
       refine CW.cond (t := false) (by simp [zT, zF, lk]) ?_
       refine CW.skip (hK5 _ _ ?_)
       refine CW.region ?_
       simp (maxDischargeDepth := 16) [zY, wrap_succ (show i ≤ 1000000000000 by omega)]
       refine hR2 _ _ _ ⟨i + 1, _, _, rfl, by simp [sub, lk], rfl, ⟨by show i + 1 ≤ _; omega, fun y hy => ?_⟩, by show l1.length - (i + 1) < l1.length - i; omega⟩
       rw [htk] at hy
       rcases List.mem_append.1 hy with hy | hy
       · exact hg y hy
       · rw [List.mem_singleton.1 hy]; exact hx
     · have hg2 : (mapGet (.string x) is).getD (.lit (.bool false)) = .lit (.bool false) := by rw [hgx]; rfl
       simp (maxDischargeDepth := 16) [zY, ha, h2', hg2]
       refine hK6 _ _ ?_
       refine CW.cond (t := true) (by simp [zT, zF, lk]) ?_
       refine CW.seqK fun K hK => CW.region ?_
       simp (maxDischargeDepth := 16) [zY]
       refine hK _ _ ?_; clear hK K
       exact CW.ret (hR2 _ _ _ (hR _ _ _ (hR0 _ _ _ ⟨.lit (.bool true), by simp [zA, omap, zB, zF, lk], Fgt.pure hex' (Frz.nrm rfl)⟩)))
   · obtain rfl : i = l1.length := by omega
     rw [List.take_length] at hg
     have hll := him hg
     subst hll
     simp (maxDischargeDepth := 16) [zY, Nat.not_lt.2 hge]
     refine hK4 _ _ ?_
     refine CW.cond (t := false) (by simp [zT, zF, lk]) ?_
     refine CW.exit (hR2 _ _ _ (hR _ _ _ ?_))
     simp only [outOf, if_true, andThen]
     refine hKL _ _ ?_
     refine CW.seqK fun K hK => CW.region ?_
     simp (maxDischargeDepth := 16) [zY]
     refine call_same l1 l1 hT (sl_inj txtR_inj) (by simp [nrmR, AV.nrm, nrmRR]) (by omega) (by omega) fun hac => ?_
     rw [eqb_self] at hac ⊢
     simp (maxDischargeDepth := 16) [zY, hac]
     refine hK _ _ ?_; clear hK K
     exact CW.ret (hR0 _ _ _ ⟨.lit (.bool true), by simp [zA, omap, zB, zF, lk], Fgt.pure hex' (Frz.nrm rfl)⟩)
end
section
open Go.RowKit
variable {S : Sp} {N : Nat}
abbrev tInt : ByteArray := ⟨#[105, 110, 116]⟩
abbrev tX : ByteArray := ⟨#[120]⟩
abbrev tY : ByteArray := ⟨#[121]⟩
abbrev aV (nm : ByteArray) : Atm := .mk 1 nm false [] false
abbrev kV (nm : ByteArray) : Trm := .mk 1 nm false [] []
abbrev yInts (s : ByteArray) : Ty := .mk false tInt (.mk 9 ⟨#[]⟩ false [] [kV s, kV ⟨#[118]⟩]) [] []
abbrev rOne (s : ByteArray) : Rhs := .mk 1 ⟨#[]⟩ [aV s] [] [] [] []
abbrev eRet (a : Atm) : Exp := .mk 2 ⟨#[]⟩ [] [] a [] []
abbrev eLet (nm : ByteArray) (t : Ty) (r : Rhs) (e : Exp) : Exp := .mk 1 nm [t] [r] (.mk 0 ⟨#[]⟩ false [] false) [] [e]
abbrev lvF : FS := smF (fun nm : ByteArray => [.lit (.string nm)]) (fun nm => .agg (aV nm).cs) (fun _ => True) (fun _ => 0) 0
abbrev lintsF : FS := smF (fun nm : ByteArray => [.lit (.string nm)]) (fun nm => .agg (yInts nm).cs) (fun _ => True) (fun _ => 0) 0
abbrev loneF : FS := smF (fun nm : ByteArray => [.lit (.string nm)]) (fun nm => .agg (rOne nm).cs) (fun _ => True) (fun _ => 0) 1
abbrev lretF : FS := smF (fun a : Atm => [.agg a.cs]) (fun a => .agg (eRet a).cs) (fun _ => True) (fun _ => 0) 0
abbrev lletF : FS := smF (fun p : ByteArray × Ty × Rhs × Exp => [.lit (.string p.1), .agg p.2.1.cs, .agg p.2.2.1.cs, .agg p.2.2.2.cs]) (fun p => .agg (eLet p.1 p.2.1 p.2.2.1 p.2.2.2).cs) (fun _ => True) (fun _ => 0) 0
theorem lv_inj (a b : ByteArray) (e : [AV.lit (.string a)] = [AV.lit (.string b)]) : a = b := by simpa using e
theorem lret_inj (a b : Atm) (e : [AV.agg a.cs] = [AV.agg b.cs]) : a = b := by
 simp only [List.cons.injEq, AV.agg.injEq, and_true] at e
 exact Atm.inj e
theorem llet_inj (a b : ByteArray × Ty × Rhs × Exp) (e : [AV.lit (.string a.1), .agg a.2.1.cs, .agg a.2.2.1.cs, .agg a.2.2.2.cs] = [AV.lit (.string b.1), .agg b.2.1.cs, .agg b.2.2.1.cs, .agg b.2.2.2.cs]) : a = b := by
 obtain ⟨a1, a2, a3, a4⟩ := a; obtain ⟨b1, b2, b3, b4⟩ := b
 simp only [List.cons.injEq, AV.lit.injEq, Value.string.injEq, AV.agg.injEq, and_true] at e
 rw [e.1, Ty.inj e.2.1, Rhs.inj e.2.2.1, Exp.inj e.2.2.2]
theorem lv_w (hc : S.code = codeP Tryz.prog) (hm : S.ms 7 = []) : SmOk Tryz.prog S N 7 (fun nm : ByteArray => [.lit (.string nm)]) (fun nm => .agg (aV nm).cs) (fun _ => True) (fun _ => 0) 0 := by
 intro nm σ hk hN
 refine JC.startF (fn := Tryz.f7) (codeOf hc Tryz.func7 rfl (by kernel_rfl)) rfl hm rfl (zL rfl) fun tm => ?_
 refine CW.hide fun R0 hR0 => ?_
 refine CW.seqK fun K hK => CW.region ?_
 simp (maxDischargeDepth := 16) [zY]
 refine hK _ _ ?_; clear hK K
 refine CW.seqK fun K hK => CW.region ?_
 simp (maxDischargeDepth := 16) [zY]
 refine hK _ _ ?_; clear hK K
 exact CW.ret (hR0 _ _ _ ⟨.agg [.lit (.int .u8 1), .lit (.string nm), .lit (.bool false), .sl [] .full, .lit (.bool false)], by simp [zA, omap, zC, zX], done rfl rfl⟩)
theorem lret_w (hc : S.code = codeP Tryz.prog) (hm : S.ms 10 = []) : SmOk Tryz.prog S N 10 (fun a : Atm => [.agg a.cs]) (fun a => .agg (eRet a).cs) (fun _ => True) (fun _ => 0) 0 := by
 rintro ⟨k, nm, ng, dg, tr⟩ σ hk hN
 refine JC.startF (fn := Tryz.f10) (codeOf hc Tryz.func10 rfl (by kernel_rfl)) rfl hm rfl (zL rfl) fun tm => ?_
 refine CW.hide fun R0 hR0 => ?_
 simp only [Atm.cs]
 refine CW.seqK fun K hK => CW.region ?_
 simp (maxDischargeDepth := 16) [zY]
 refine hK _ _ ?_; clear hK K
 refine CW.seqK fun K hK => CW.region ?_
 simp (maxDischargeDepth := 16) [zY]
 refine hK _ _ ?_; clear hK K
 exact CW.ret (hR0 _ _ _ ⟨.agg [.lit (.int .u8 2), .lit (.string ⟨#[]⟩), .sl [] .full, .sl [] .full, .lit (.int .u8 k), .lit (.string nm), .lit (.bool ng), .sl (limR dg) .no, .lit (.bool tr), .sl [] .full, .sl [] .full], by simp [zA, omap, zC, zX], done (by simp [AV.pln, limR_pln, plnR, plnRR]) (by simp [AV.nrm, nrmR, nrmRR, limR_nrm, Exp.cs, tyR, rhsR, armR, expR])⟩)
theorem llet_w (hc : S.code = codeP Tryz.prog) (hm : S.ms 8 = []) : SmOk Tryz.prog S N 8 (fun p : ByteArray × Ty × Rhs × Exp => [.lit (.string p.1), .agg p.2.1.cs, .agg p.2.2.1.cs, .agg p.2.2.2.cs]) (fun p => .agg (eLet p.1 p.2.1 p.2.2.1 p.2.2.2).cs) (fun _ => True) (fun _ => 0) 0 := by
 rintro ⟨nm, ⟨yfn, yst, ⟨yk, ynm, yng, ydg, yks⟩, yps, yrs⟩, ⟨rk, rnm, rats, rps, rrs, rbd, rts⟩, ⟨ek, enm, ety, erh, ⟨amk, amnm, amng, amdg, amtr⟩, ear, ebd⟩⟩ σ hk hN
 refine JC.startF (fn := Tryz.f8) (codeOf hc Tryz.func8 rfl (by kernel_rfl)) rfl hm rfl (zL rfl) fun tm => ?_
 refine CW.hide fun R0 hR0 => ?_
 simp only [Ty.cs, Rhs.cs, Exp.cs]
 refine CW.seqK fun K hK => CW.region ?_
 simp (maxDischargeDepth := 16) [zY]
 refine hK _ _ ?_; clear hK K
 refine CW.seqK fun K hK => CW.region ?_
 simp (maxDischargeDepth := 16) [zY]
 refine hK _ _ ?_; clear hK K
 exact CW.ret (hR0 _ _ _ ⟨.agg [.lit (.int .u8 1), .lit (.string nm), .sl [[.lit (.bool yfn), .lit (.string yst), .lit (.int .u8 yk), .lit (.string ynm), .lit (.bool yng), .sl (limR ydg) .no, .sl (trmR yks) .no, .sl (prmR yps) .no, .sl (tyR yrs) .no]] .full, .sl [[.lit (.int .u8 rk), .lit (.string rnm), .sl (atmR rats) .no, .sl (prmR rps) .no, .sl (tyR rrs) .no, .sl (expR rbd) .no, .sl (trmR rts) .no]] .full, .lit (.int .u8 0), .lit (.string ⟨#[]⟩), .lit (.bool false), .sl [] .full, .lit (.bool false), .sl [] .full, .sl [[.lit (.int .u8 ek), .lit (.string enm), .sl (tyR ety) .no, .sl (rhsR erh) .no, .lit (.int .u8 amk), .lit (.string amnm), .lit (.bool amng), .sl (limR amdg) .no, .lit (.bool amtr), .sl (armR ear) .no, .sl (expR ebd) .no]] .full], by simp [zA, omap, zC, zX], done (by simp [AV.pln, limR_pln, trmR_pln, prmR_pln, tyR_pln, atmR_pln, expR_pln, rhsR_pln, armR_pln, plnR, plnRR]) (by simp [AV.nrm, nrmR, nrmRR, limR_nrm, trmR_nrm, prmR_nrm, tyR_nrm, atmR_nrm, expR_nrm, rhsR_nrm, armR_nrm, Exp.cs, tyR, rhsR, armR, expR, Ty.cs, Rhs.cs, show limR [] = [] from rfl])⟩)
theorem lints_w (hc : S.code = codeP Tryz.prog) (hm : S.ms 6 = []) : SmOk Tryz.prog S N 6 (fun nm : ByteArray => [.lit (.string nm)]) (fun nm => .agg (yInts nm).cs) (fun _ => True) (fun _ => 0) 0 := by
 intro nm σ hk hN
 refine JC.startF (fn := Tryz.f6) (codeOf hc Tryz.func6 rfl (by kernel_rfl)) rfl hm rfl (zL rfl) fun tm => ?_
 refine CW.hide fun R0 hR0 => ?_
 refine CW.seqK fun K hK => CW.region ?_
 simp (maxDischargeDepth := 16) [zY]
 refine hK _ _ ?_; clear hK K
 refine CW.seqK fun K hK => CW.region ?_
 simp (maxDischargeDepth := 16) [zY]
 refine hK _ _ ?_; clear hK K
 exact CW.ret (hR0 _ _ _ ⟨.agg [.lit (.bool false), .lit (.string tInt), .lit (.int .u8 9), .lit (.string ⟨#[]⟩), .lit (.bool false), .sl [] .full, .sl [[.lit (.int .u8 1), .lit (.string nm), .lit (.bool false), .sl [] .full, .sl [] .full], [.lit (.int .u8 1), .lit (.string ⟨#[118]⟩), .lit (.bool false), .sl [] .full, .sl [] .full]] .full, .sl [] .full, .sl [] .full], by simp [zA, omap, zC, zX], done (by simp [AV.pln, plnR, plnRR]) (by simp [AV.nrm, nrmR, nrmRR, Ty.cs, prmR, tyR, trmR, limR, Trm.cs])⟩)
theorem lone_w (hc : S.code = codeP Tryz.prog) (hm : S.ms 9 = []) (h1 : S.sp 7 = some lvF) : SmOk Tryz.prog S N 9 (fun nm : ByteArray => [.lit (.string nm)]) (fun nm => .agg (rOne nm).cs) (fun _ => True) (fun _ => 0) 1 := by
 intro nm σ hk hN
 refine JC.startF (fn := Tryz.f9) (codeOf hc Tryz.func9 rfl (by kernel_rfl)) rfl hm rfl (zL rfl) fun tm => ?_
 refine CW.hide fun R0 hR0 => ?_
 refine CW.seqK fun K hK => CW.region ?_
 simp (maxDischargeDepth := 16) [zY]
 refine hK _ _ ?_; clear hK K
 refine CW.seqK fun K hK => CW.region ?_
 simp (maxDischargeDepth := 16) [zY]
 refine call_sm nm h1 lv_inj (by simp [nrmR, AV.nrm]) trivial (by omega) fun _ => ?_
 simp (maxDischargeDepth := 16) [zY, Atm.cs, limR]
 refine hK _ _ ?_
 exact CW.ret (hR0 _ _ _ ⟨.agg [.lit (.int .u8 1), .lit (.string ⟨#[]⟩), .sl [[.lit (.int .u8 1), .lit (.string nm), .lit (.bool false), .sl [] .no, .lit (.bool false)]] .full, .sl [] .full, .sl [] .full, .sl [] .full, .sl [] .full], by simp [zA, omap, zC, zX], done (by simp [AV.pln, plnR, plnRR]) (by simp [AV.nrm, nrmR, nrmRR, Rhs.cs, prmR, tyR, trmR, limR, Atm.cs, atmR, expR])⟩)
end
section
open Go.RowKit
variable {S : Sp} {N : Nat}
abbrev x1 : ByteArray := ⟨#[120, 95, 49]⟩
abbrev x2 : ByteArray := ⟨#[120, 95, 50]⟩
abbrev x3 : ByteArray := ⟨#[120, 95, 51]⟩
abbrev x7 : ByteArray := ⟨#[120, 95, 55]⟩
abbrev y1 : ByteArray := ⟨#[121, 95, 49]⟩
abbrev yNo : Ty := .mk false ⟨#[]⟩ (.mk 0 ⟨#[]⟩ false [] []) [] []
abbrev fA : Fun := .mk ⟨#[102]⟩ [.mk tX (yInts tX)] (yInts tX) (eLet x7 (yInts tX) (rOne tX) (eRet (aV x7)))
abbrev fB : Fun := .mk ⟨#[]⟩ [.mk tX (yInts tY)] yNo (eLet tY (yInts tX) (rOne tX) (eRet (aV tY)))
abbrev gA : Fun := .mk ⟨#[102]⟩ [.mk x2 (yInts tX)] (yInts x2) (eLet x3 (yInts x2) (rOne x2) (eRet (aV x3)))
abbrev gB : Fun := .mk ⟨#[]⟩ [.mk x1 (yInts tY)] yNo (eLet y1 (yInts x1) (rOne x1) (eRet (aV y1)))
theorem fr1 : freshB [tX, x1] tX = x2 := by decide +kernel
theorem fr2 : freshB [tX, x1, x2] x7 = x3 := by decide +kernel
theorem fr3 : freshB [] tX = x1 := by decide +kernel
theorem fr4 : freshB [x1] tY = y1 := by decide +kernel
theorem renA1 : renF NFp [tX, x1] fA = (gA, [tX, x1, x2, x3]) := by
 have h1 : NFp.f [tX, x1] tX = x2 := fr1
 have h2 : NFp.f [tX, x1, x2] x7 = x3 := fr2
 simp [renF, renPs, renP, renY, renYs, renT, renTs, renE, renEs, renRs, renR, renMs, renM, renA, letN, nowB, Prm.nmOf, h1, h2, vB]
theorem renB1 : renF NFp [] fB = (gB, [x1, y1]) := by
 have h1 : NFp.f [] tX = x1 := fr3
 have h2 : NFp.f [x1] tY = y1 := fr4
 simp [renF, renPs, renP, renY, renYs, renT, renTs, renE, renEs, renRs, renR, renMs, renM, renA, letN, nowB, Prm.nmOf, h1, h2, vB]
theorem okA1 : FreshOk ([tX, x1], fA) := ⟨by decide, by decide, by decide⟩
theorem okB1 : FreshOk ([], fB) := ⟨by decide, by decide, by decide⟩
theorem fresh_inj (a b : List ByteArray × Fun) (e : [AV.sl (txtR a.1) .no, .agg a.2.cs] = [.sl (txtR b.1) .no, .agg b.2.cs]) : a = b := by
 obtain ⟨a1, a2⟩ := a; obtain ⟨b1, b2⟩ := b
 simp only [List.cons.injEq, AV.sl.injEq, AV.agg.injEq, and_true] at e
 rw [txtR_inj e.1, Fun.inj e.2]
theorem lt_n {a N : Nat} (h : a ≤ 100) (h2 : 16000 ≤ N) : 16 * a + 5 < N := by omega
abbrev lawakeF : FS := smF (fun _ : Unit => []) (fun _ => .lit (.bool true)) (fun _ => True) (fun _ => 1000) 0
theorem lawake_w (hc : S.code = codeP Tryz.prog) (hm : S.ms 13 = []) (hV : S.sp 7 = some lvF) (hI : S.sp 6 = some lintsF) (hO : S.sp 9 = some loneF) (hR : S.sp 10 = some lretF) (hL : S.sp 8 = some lletF)
    (hF : S.sp 15 = some freshF) (hT : S.sp 17 = some (sameF (fun l => .sl (txtR l) .no) List.length 0)) :
    SmOk Tryz.prog S N 13 (fun _ : Unit => []) (fun _ => .lit (.bool true)) (fun _ => True) (fun _ => 1000) 0 := by
 intro _ σ hk hN
 refine JC.startF (fn := Tryz.f13) (codeOf hc Tryz.func13 rfl (by kernel_rfl)) rfl hm rfl (zL rfl) fun tm => ?_
 refine CW.hide fun R0 hR0 => ?_
 replace hN : 16000 ≤ N := hN
 refine CW.seqK fun K hK => CW.region ?_
 simp (maxDischargeDepth := 16) [zY]
 refine hK _ _ ?_; clear hK K
 refine CW.seqK fun K hK => CW.region ?_
 simp (maxDischargeDepth := 16) [zY]
 refine call_sm tX hI lv_inj (by simp only [nrmR, AV.nrm]) trivial (by omega) fun _ => ?_
 simp (maxDischargeDepth := 16) [zY, Ty.cs, Trm.cs, trmR, limR, prmR, tyR]
 refine call_sm tX hI lv_inj (by simp only [nrmR, AV.nrm]) trivial (by omega) fun _ => ?_
 simp (maxDischargeDepth := 16) [zY, Ty.cs, Trm.cs, trmR, limR, prmR, tyR]
 refine call_sm tX hI lv_inj (by simp only [nrmR, AV.nrm]) trivial (by omega) fun _ => ?_
 simp (maxDischargeDepth := 16) [zY]
 refine call_sm tX hO lv_inj (by simp only [nrmR, AV.nrm]) trivial (by omega) fun _ => ?_
 simp (maxDischargeDepth := 16) [zY]
 refine call_sm x7 hV lv_inj (by simp only [nrmR, AV.nrm]) trivial (by omega) fun _ => ?_
 simp (maxDischargeDepth := 16) [zY]
 refine call_sm (aV x7) hR lret_inj (by simp only [nrmR, AV.nrm, Atm.nrm]) trivial (by omega) fun _ => ?_
 simp (maxDischargeDepth := 16) [zY]
 refine call_sm (x7, yInts tX, rOne tX, eRet (aV x7)) hL llet_inj (by simp only [nrmR, AV.nrm, Ty.nrm, Rhs.nrm, Exp.nrm]) trivial (by omega) fun _ => ?_
 simp (maxDischargeDepth := 16) [zY, Exp.len, Exp.tk, Exp.put, Exp.cs, Ty.cs, Trm.cs, trmR, limR, prmR, tyR, Rhs.cs, rhsR, atmR, Atm.cs, armR, expR]
 refine call_sm ([tX, x1], fA) hF fresh_inj (by simp [nrmR, AV.nrm, nrmRR, txtR, Fun.cs, Exp.cs, Ty.cs, Trm.cs, trmR, limR, prmR, Prm.cs, tyR, Rhs.cs, rhsR, atmR, Atm.cs, armR, expR]) okA1 (lt_n (a := fA.n) (by decide) hN) fun _ => ?_
 rw [renA1]
 simp (maxDischargeDepth := 16) [zY, Fun.cs, Exp.cs, Ty.cs, Trm.cs, trmR, limR, prmR, Prm.cs, tyR, Rhs.cs, rhsR, atmR, Atm.cs, armR, expR]
 refine hK _ _ ?_; clear hK K
 refine CW.seqK fun K hK => CW.region ?_
 simp (maxDischargeDepth := 16) [zY]
 refine call_sm tY hI lv_inj (by simp only [nrmR, AV.nrm]) trivial (by omega) fun _ => ?_
 simp (maxDischargeDepth := 16) [zY, Ty.cs, Trm.cs, trmR, limR, prmR, tyR]
 refine call_sm tX hI lv_inj (by simp only [nrmR, AV.nrm]) trivial (by omega) fun _ => ?_
 simp (maxDischargeDepth := 16) [zY]
 refine call_sm tX hO lv_inj (by simp only [nrmR, AV.nrm]) trivial (by omega) fun _ => ?_
 simp (maxDischargeDepth := 16) [zY]
 refine call_sm tY hV lv_inj (by simp only [nrmR, AV.nrm]) trivial (by omega) fun _ => ?_
 simp (maxDischargeDepth := 16) [zY]
 refine call_sm (aV tY) hR lret_inj (by simp only [nrmR, AV.nrm, Atm.nrm]) trivial (by omega) fun _ => ?_
 simp (maxDischargeDepth := 16) [zY]
 refine call_sm (tY, yInts tX, rOne tX, eRet (aV tY)) hL llet_inj (by simp only [nrmR, AV.nrm, Ty.nrm, Rhs.nrm, Exp.nrm]) trivial (by omega) fun _ => ?_
 simp (maxDischargeDepth := 16) [zY, Exp.len, Exp.tk, Exp.put, Exp.cs, Ty.cs, Trm.cs, trmR, limR, prmR, tyR, Rhs.cs, rhsR, atmR, Atm.cs, armR, expR]
 refine call_sm ([], fB) hF fresh_inj (by simp [nrmR, AV.nrm, nrmRR, txtR, Fun.cs, Exp.cs, Ty.cs, Trm.cs, trmR, limR, prmR, Prm.cs, tyR, Rhs.cs, rhsR, atmR, Atm.cs, armR, expR]) okB1 (lt_n (a := fB.n) (by decide) hN) fun _ => ?_
 rw [renB1]
 simp (maxDischargeDepth := 16) [zY, Fun.cs, Exp.cs, Ty.cs, Trm.cs, trmR, limR, prmR, Prm.cs, tyR, Rhs.cs, rhsR, atmR, Atm.cs, armR, expR]
 refine hK _ _ ?_; clear hK K
 refine CW.seqK fun K hK => CW.region ?_
 simp (maxDischargeDepth := 16) [zY]
 refine call_same [tX, x1, x2, x3] [tX, x1, x2, x3] hT (sl_inj txtR_inj) (by simp [nrmR, AV.nrm, nrmRR, txtR]) (by decide) (by show 16 * 4 + 0 < N; omega) fun hac => ?_
 rw [eqb_self] at hac ⊢
 simp (maxDischargeDepth := 16) [zY]
 refine hK _ _ ?_; clear hK K
 refine CW.ret (hR0 _ _ _ ⟨.lit (.bool true), by simp [zA, omap, zB, zF, lk], Fgt.pure ⟨_, rfl⟩ (Frz.nrm rfl)⟩)
end
end Go.Proofs.YteajcnilihgheaaGreatDoor
