/-
 EV: the document's answer for layer 19: Fresh.
-/
import Derived.Test.YteajcnilihgheaaGreatDoorSc11M
import Derived.Test.YteajcnilihgheaaGreatDoorRw15M
import Derived.Test.YteajcnilihgheaaGreatDoorTBaseM
import Derived.Test.YteajcnilihgheaaGreatDoorEvDeferM
import Derived.Test.YteajcnilihgheaaGreatDoorRw14M
import Derived.Test.YteajcnilihgheaaGreatDoorRw6M
namespace Go.Proofs.YteajcnilihgheaaGreatDoor
set_option maxRecDepth 100000
set_option maxHeartbeats 8000000
set_option linter.unusedSimpArgs false
set_option linter.unusedVariables false
section
open Go.RowKit
variable {S : Sp} {N : Nat}
theorem Fresh9_w (H : H9K S) (hm : S.ms 26 = []) : SmOk Tryz.prog S N 26 (fun p : List ByteArray × Fun => [.sl (txtR p.1) .no, .agg p.2.cs]) (fun p => .tup [.agg (renF NFp p.1 p.2).1.cs, .sl (txtR (renF NFp p.1 p.2).2) .no]) FreshOk (fun p => p.2.n) 5 := by
 rintro ⟨u, nm, ps, rs, bd⟩ σ ⟨hn, hu, hb⟩ hN
 dsimp only at hn hu hb hN ⊢
 rw [show bF (.mk nm ps rs bd) = bPs ps ++ bY rs ++ bE bd from rfl] at hu hb
 have hsz : prmN ps + rs.n + bd.n ≤ (Fun.mk nm ps rs bd).n + 1 := by
  obtain ⟨rsfn, rsst, ⟨rsrfk, rsrfnm, rsrfng, rsrfdg, rsrfks⟩, rsps, rsrs⟩ := rs
  obtain ⟨bdk, bdnm, bdty, bdrh, ⟨bdamk, bdamnm, bdamng, bdamdg, bdamtr⟩, bdar, bdbd⟩ := bd
  simp only [Fun.n, Ty.n, Exp.n, Trm.n, Atm.n]; omega
 have hp1 := rs.n_pos
 have hp2 := bd.n_pos
 have hft : Fu9 S N ps [rs] := fun9_a H ps [rs] (by simp only [tyN]; omega) (by simp only [tyN]; omega)
 have hfe := (all9_j (N := N) H bd.n).1 bd (Nat.le_refl _) (by omega) (by omega)
 clear hsz
 have hren : renF NFp u (.mk nm ps rs bd) = (let a := renPs NFp [] u ps
  let b := renY NFp a.2.1 a.2.2 rs
  let c := renE NFp a.2.1 b.2 bd
  (.mk nm a.1 b.1 c.1, c.2)) := by rw [renF]
 rw [hren]
 clear hren
 dsimp only
 refine JC.startG (fn := Tryz.f26) (codeOf H.code Tryz.func26 rfl (by kernel_rfl)) rfl hm rfl (zL rfl) fun tm => ?_
 refine JD.hide fun R0 hR0 => ?_
 have mk2 := fun (ρ : Operand → Option AV) (σ : Sto) (ds : Option Tmp) (ty : TypeId) (po : String) (af : Array Edge) (gu : Option (Nat × Bool)) => es_mk (P := Tryz.prog) (M := []) (ρ := ρ) (σ := σ) (t := 66) (kt := 9) (e := 4) (q := .str) (ds := ds) (ty := ty) (po := po) (af := af) (gu := gu) (by kernel_rfl) (by kernel_rfl)
 obtain ⟨rsfn, rsst, ⟨rsrfk, rsrfnm, rsrfng, rsrfdg, rsrfks⟩, rsps, rsrs⟩ := rs
 obtain ⟨bdk, bdnm, bdty, bdrh, ⟨bdamk, bdamnm, bdamng, bdamdg, bdamtr⟩, bdar, bdbd⟩ := bd
 simp only [Fun.cs]
 refine JD.seqK fun K hK => J.cw (CW.region ?_)
 simp (maxDischargeDepth := 16) [zY]
 refine hK _ _ ?_; clear hK K
 have a0 : (σ ++ [AObj.cells [.lit (.string nm), .sl (prmR ps) .no, .lit (.bool rsfn), .lit (.string rsst), .lit (.int .u8 rsrfk), .lit (.string rsrfnm), .lit (.bool rsrfng), .sl (limR rsrfdg) .no, .sl (trmR rsrfks) .no, .sl (prmR rsps) .no, .sl (tyR rsrs) .no, .lit (.int .u8 bdk), .lit (.string bdnm), .sl (tyR bdty) .no, .sl (rhsR bdrh) .no, .lit (.int .u8 bdamk), .lit (.string bdamnm), .lit (.bool bdamng), .sl (limR bdamdg) .no, .lit (.bool bdamtr), .sl (armR bdar) .no, .sl (expR bdbd) .no] 58, AObj.cells [.lit (.string ⟨#[]⟩), .sl [] .full, .lit (.bool false), .lit (.string ⟨#[]⟩), .lit (.int .u8 0), .lit (.string ⟨#[]⟩), .lit (.bool false), .sl [] .full, .sl [] .full, .sl [] .full, .sl [] .full, .lit (.int .u8 0), .lit (.string ⟨#[]⟩), .sl [] .full, .sl [] .full, .lit (.int .u8 0), .lit (.string ⟨#[]⟩), .lit (.bool false), .sl [] .full, .lit (.bool false), .sl [] .full, .sl [] .full] 58])[σ.length]? = some (AObj.cells [.lit (.string nm), .sl (prmR ps) .no, .lit (.bool rsfn), .lit (.string rsst), .lit (.int .u8 rsrfk), .lit (.string rsrfnm), .lit (.bool rsrfng), .sl (limR rsrfdg) .no, .sl (trmR rsrfks) .no, .sl (prmR rsps) .no, .sl (tyR rsrs) .no, .lit (.int .u8 bdk), .lit (.string bdnm), .sl (tyR bdty) .no, .sl (rhsR bdrh) .no, .lit (.int .u8 bdamk), .lit (.string bdamnm), .lit (.bool bdamng), .sl (limR bdamdg) .no, .lit (.bool bdamtr), .sl (armR bdar) .no, .sl (expR bdbd) .no] 58) := by simp
 have a1 : (σ ++ [AObj.cells [.lit (.string nm), .sl (prmR ps) .no, .lit (.bool rsfn), .lit (.string rsst), .lit (.int .u8 rsrfk), .lit (.string rsrfnm), .lit (.bool rsrfng), .sl (limR rsrfdg) .no, .sl (trmR rsrfks) .no, .sl (prmR rsps) .no, .sl (tyR rsrs) .no, .lit (.int .u8 bdk), .lit (.string bdnm), .sl (tyR bdty) .no, .sl (rhsR bdrh) .no, .lit (.int .u8 bdamk), .lit (.string bdamnm), .lit (.bool bdamng), .sl (limR bdamdg) .no, .lit (.bool bdamtr), .sl (armR bdar) .no, .sl (expR bdbd) .no] 58, AObj.cells [.lit (.string ⟨#[]⟩), .sl [] .full, .lit (.bool false), .lit (.string ⟨#[]⟩), .lit (.int .u8 0), .lit (.string ⟨#[]⟩), .lit (.bool false), .sl [] .full, .sl [] .full, .sl [] .full, .sl [] .full, .lit (.int .u8 0), .lit (.string ⟨#[]⟩), .sl [] .full, .sl [] .full, .lit (.int .u8 0), .lit (.string ⟨#[]⟩), .lit (.bool false), .sl [] .full, .lit (.bool false), .sl [] .full, .sl [] .full] 58])[σ.length + 1]? = some (AObj.cells [.lit (.string ⟨#[]⟩), .sl [] .full, .lit (.bool false), .lit (.string ⟨#[]⟩), .lit (.int .u8 0), .lit (.string ⟨#[]⟩), .lit (.bool false), .sl [] .full, .sl [] .full, .sl [] .full, .sl [] .full, .lit (.int .u8 0), .lit (.string ⟨#[]⟩), .sl [] .full, .sl [] .full, .lit (.int .u8 0), .lit (.string ⟨#[]⟩), .lit (.bool false), .sl [] .full, .lit (.bool false), .sl [] .full, .sl [] .full] 58) := by simp
 have hla : (σ ++ [AObj.cells [.lit (.string nm), .sl (prmR ps) .no, .lit (.bool rsfn), .lit (.string rsst), .lit (.int .u8 rsrfk), .lit (.string rsrfnm), .lit (.bool rsrfng), .sl (limR rsrfdg) .no, .sl (trmR rsrfks) .no, .sl (prmR rsps) .no, .sl (tyR rsrs) .no, .lit (.int .u8 bdk), .lit (.string bdnm), .sl (tyR bdty) .no, .sl (rhsR bdrh) .no, .lit (.int .u8 bdamk), .lit (.string bdamnm), .lit (.bool bdamng), .sl (limR bdamdg) .no, .lit (.bool bdamtr), .sl (armR bdar) .no, .sl (expR bdbd) .no] 58, AObj.cells [.lit (.string ⟨#[]⟩), .sl [] .full, .lit (.bool false), .lit (.string ⟨#[]⟩), .lit (.int .u8 0), .lit (.string ⟨#[]⟩), .lit (.bool false), .sl [] .full, .sl [] .full, .sl [] .full, .sl [] .full, .lit (.int .u8 0), .lit (.string ⟨#[]⟩), .sl [] .full, .sl [] .full, .lit (.int .u8 0), .lit (.string ⟨#[]⟩), .lit (.bool false), .sl [] .full, .lit (.bool false), .sl [] .full, .sl [] .full] 58]).length = σ.length + 2 := by simp
 have hka : ∀ p, p < σ.length → (σ ++ [AObj.cells [.lit (.string nm), .sl (prmR ps) .no, .lit (.bool rsfn), .lit (.string rsst), .lit (.int .u8 rsrfk), .lit (.string rsrfnm), .lit (.bool rsrfng), .sl (limR rsrfdg) .no, .sl (trmR rsrfks) .no, .sl (prmR rsps) .no, .sl (tyR rsrs) .no, .lit (.int .u8 bdk), .lit (.string bdnm), .sl (tyR bdty) .no, .sl (rhsR bdrh) .no, .lit (.int .u8 bdamk), .lit (.string bdamnm), .lit (.bool bdamng), .sl (limR bdamdg) .no, .lit (.bool bdamtr), .sl (armR bdar) .no, .sl (expR bdbd) .no] 58, AObj.cells [.lit (.string ⟨#[]⟩), .sl [] .full, .lit (.bool false), .lit (.string ⟨#[]⟩), .lit (.int .u8 0), .lit (.string ⟨#[]⟩), .lit (.bool false), .sl [] .full, .sl [] .full, .sl [] .full, .sl [] .full, .lit (.int .u8 0), .lit (.string ⟨#[]⟩), .sl [] .full, .sl [] .full, .lit (.int .u8 0), .lit (.string ⟨#[]⟩), .lit (.bool false), .sl [] .full, .lit (.bool false), .sl [] .full, .sl [] .full] 58])[p]? = σ[p]? := fun p hp => List.getElem?_append_left hp
 generalize σ ++ [_, _] = σa at *
 obtain ⟨tok, σ1, acc, u1, u2, u3, u4, hap⟩ := app_own (P := Tryz.prog) (M := []) (σ := σa) (t := 23) (e := 9) (k := 0) (by_ := 16) (es := []) (fs := txtR u) (tok := .full) (by kernel_rfl) (by kernel_rfl) (by kernel_rfl) (by kernel_rfl) (.inl ⟨rfl, rfl⟩) rfl (txtR_hd _) (by simp only [List.length_nil, txtR_len]; omega) (by simp only [List.length_nil, txtR_len]; omega)
 simp only [List.nil_append, show stripRows (txtR u) = txtR u from txtR_stp u] at hap
 have b0 := (u3 σ.length (by omega) (by simp)).trans a0
 have b1 := (u3 (σ.length + 1) (by omega) (by simp)).trans a1
 have hkb : ∀ p, p < σ.length → σ1[p]? = σ[p]? := fun p hp => (u3 p (by omega) (by simp)).trans (hka p hp)
 have htok : ∀ p, tok = .own p → σ.length + 2 ≤ p := fun p hp => by
  rcases u4 p hp with e | e
  · cases e
  · omega
 clear a0 a1 u3 u4 hka
 refine JD.keep [0, 3, 4, 5] fun tm => ?_
 simp only [sel, List.contains_cons, List.contains_nil, Bool.or_false, Nat.reduceBEq, Bool.false_eq_true, if_false, if_true, Bool.or_true, Bool.true_or]
 refine JD.seqK fun K hK => J.cw (CW.region ?_)
 simp (maxDischargeDepth := 16) [zY, mk2, hap]
 refine hK _ _ ?_; clear hK K
 have l1 := (List.getElem?_eq_some_iff.1 b1).1
 have d0 := fun l : Sto => (st_old (l := l) (by omega : σ.length < σ1.length)).trans b0
 have d1 := fun l : Sto => (st_old (l := l) l1).trans b1
 have hkc : ∀ (l : Sto) p, p < σ.length → (σ1 ++ l)[p]? = σ[p]? := fun l p hp => (st_old (by omega)).trans (hkb p hp)
 have dm : (σ1 ++ [AObj.map .str [], AObj.cells [.sl (txtR u) tok, .mp σ1.length] 119])[σ1.length]? = some (.map .str []) := by simp
 have dr : (σ1 ++ [AObj.map .str [], AObj.cells [.sl (txtR u) tok, .mp σ1.length] 119])[σ1.length + 1]? = some (AObj.cells [.sl (txtR u) tok, .mp σ1.length] 119) := by simp
 have dt : TokS (σ1 ++ [AObj.map .str [], AObj.cells [.sl (txtR u) tok, .mp σ1.length] 119]) u.length 9 tok ∧ ∀ p, tok = .own p → p < σ1.length := by
  simp only [List.length_nil, txtR_len, Nat.zero_add, Nat.mul_one] at u1
  rcases u1 with ⟨g1, g2⟩ | ⟨i, g1, g2⟩
  · exact ⟨.inl ⟨g1, g2⟩, fun p hp => by rw [g1] at hp; cases hp⟩
  · have hi := (List.getElem?_eq_some_iff.1 g2).1
    exact ⟨.inr ⟨i, g1, (st_old hi).trans g2⟩, fun p hp => by rw [g1] at hp; cases hp; exact hi⟩
 obtain ⟨dt, dl⟩ := dt
 have hbl : (σ1 ++ [AObj.map .str [], AObj.cells [.sl (txtR u) tok, .mp σ1.length] 119]).length = σ1.length + 2 := by simp
 replace d0 := d0 [AObj.map .str [], AObj.cells [.sl (txtR u) tok, .mp σ1.length] 119]
 replace d1 := d1 [AObj.map .str [], AObj.cells [.sl (txtR u) tok, .mp σ1.length] 119]
 replace hkc := hkc [AObj.map .str [], AObj.cells [.sl (txtR u) tok, .mp σ1.length] 119]
 clear b0 b1 hkb hap u1 u2 mk2 hla
 generalize hL : σ1.length = L at *
 generalize σ1 ++ [_, _] = σb at *
 have hset : σb.set L (.map .str []) = σb := by
  obtain ⟨q, e⟩ := List.getElem?_eq_some_iff.1 dm
  rw [← e, List.set_getElem_self]
 have em : ∀ is, (σb.set L (.map .str is))[L]? = some (.map .str is) := fun is => List.getElem?_set_self (by omega)
 have eo : ∀ is p, p ≠ L → (σb.set L (.map .str is))[p]? = σb[p]? := fun is p hp => List.getElem?_set_ne hp.symm
 refine JD.keep [0, 3, 4, 5, 6] fun tm => ?_
 simp only [sel, List.contains_cons, List.contains_nil, Bool.or_false, Nat.reduceBEq, Bool.false_eq_true, if_false, if_true, Bool.or_true, Bool.true_or]
 refine JD.seqK fun KL hKL => ?_
 refine JD.seqK fun K hK => J.cw (CW.region ?_)
 simp (maxDischargeDepth := 16) [zY]
 refine hK _ _ ?_; clear hK K
 refine JD.block (JD.hide fun R1 hR1 => ?_)
 have hul : u.length ≤ 1000000000 := by omega
 refine JD.loopF (fun p : Nat × List (Value × AV) => [(0, .sl (txtR u) .no), (3, .ptr σ.length 0), (4, .ptr (σ.length + 1) 0), (6, .ptr (L + 1) 0), (7, intV p.1)]) (fun p => σb.set L (.map .str p.2)) (fun p => p.1 ≤ u.length ∧ isOk (u.take p.1) p.2) (fun p => u.length - p.1) (0, []) (by simp [sub, lk]) hset.symm ⟨by simp, ⟨(by intro p hp; cases hp), fun s => .inr ⟨by simp, rfl⟩⟩⟩ ?_
 rintro ⟨i, is⟩ tm ⟨hi, hk⟩ R2 hR2 hR2x
 dsimp only at hi hk hR2 ⊢
 have er := (eo is (L + 1) (by omega)).trans dr
 have e0 := (eo is σ.length (by omega)).trans d0
 have e1 := (eo is (σ.length + 1) (by omega)).trans d1
 have em' := em is
 have hss : ∀ is', (σb.set L (.map .str is)).set L (.map .str is') = σb.set L (.map .str is') := fun is' => List.set_set ..
 have hkd : ∀ p, p < σ.length → (σb.set L (.map .str is))[p]? = σ[p]? := fun p hp => (eo is p (by omega)).trans (hkc p hp)
 have ht' : TokS (σb.set L (.map .str is)) u.length 9 tok := by
  rcases dt with g | ⟨j, g1, g2⟩
  · exact .inl g
  · exact .inr ⟨j, g1, (eo is j (by have := dl j g1; omega)).trans g2⟩
 have hcl : (σb.set L (.map .str is)).length = L + 2 := by rw [List.length_set]; exact hbl
 generalize σb.set L (.map .str is) = σc at em' er e0 e1 hss hkd ht' hcl ⊢
 refine JD.seqK fun K3 hK3 => ?_
 rcases Nat.lt_or_ge i u.length with hlt | hge
 · have ha := txtR_get hlt
   refine JD.seqK fun K hK => J.cw (CW.region ?_)
   simp (maxDischargeDepth := 16) [zY, hlt]
   refine hK _ _ ?_; clear hK K
   refine JD.cond (t := true) (by simp [zT, zF, lk]) ?_
   refine JD.skip (hK3 _ _ ?_)
   refine JD.seqK fun K5 hK5 => JD.block (J.cw (CW.draw (by kernel_rfl) ?_))
   simp (maxDischargeDepth := 16) [zY, er, ha, em', AV.notTup]
   refine ⟨drawOk_sim [L + 1, L] [.pure, .pure, .pure, .reads 0, .pure, .pure, .pure, .pure, .writes 1] (.cons (by simp) (.cons (by simp) .nil)) (.cons .pure (.cons .pure (.cons .pure (.cons (.reads 0 _ rfl) (.cons .pure (.cons .pure (.cons .pure (.cons .pure (.cons (.writes 1 _ rfl) .nil))))))))) (by kernel_rfl), hK5 _ _ (J.cw (CW.region ?_))⟩
   rw [hss]
   simp (maxDischargeDepth := 16) [zY, wrap_succ (show i ≤ 1000000000000 by omega)]
   refine hR2 _ _ ⟨(i + 1, mapPut (.string u[i]) (.lit (.bool true)) is), _, _, rfl, by simp [sub, lk], rfl, ⟨hlt, ?_⟩, by show u.length - (i + 1) < u.length - i; omega⟩
   show isOk (u.take (i + 1)) _
   rw [List.take_succ_eq_append_getElem hlt]
   exact hk.put _
 · obtain rfl : i = u.length := by omega
   rw [List.take_length] at hk
   refine JD.seqK fun K hK => J.cw (CW.region ?_)
   simp (maxDischargeDepth := 16) [zY, Nat.not_lt.2 hge]
   refine hK _ _ ?_; clear hK K
   refine JD.cond (t := false) (by simp [zT, zF, lk]) ?_
   refine JD.exit (hR2x _ _ _ (by simp) (hR1 _ _ _ ?_))
   simp only [outOf, if_true]
   refine hKL _ _ ?_
   clear hKL hR1 hR2x hR2 hK3 R2 R1 KL K3 hss hset em eo dm dr d0 d1 hkc dt hbl
   refine JD.keep [3, 4, 6] fun tm => ?_
   simp only [sel, List.contains_cons, List.contains_nil, Bool.or_false, Nat.reduceBEq, Bool.false_eq_true, if_false, if_true, Bool.or_true, Bool.true_or]
   have hS : S9 ⟨L + 1, L⟩ u σc := ⟨⟨tok, er, ht'⟩, ⟨is, em', hk⟩⟩
   have hno : ∀ p, p < σ.length + 2 → ¬ O9 ⟨L + 1, L⟩ σc p := fun p hp e => by
    rcases e with e | e | ⟨es, x, e⟩
    · dsimp only at e; omega
    · dsimp only at e; omega
    · dsimp only at e
      rw [er] at e
      simp only [Option.some.injEq, AObj.cells.injEq, List.cons.injEq, AV.sl.injEq, and_true] at e
      have := htok p e.1.2
      omega
   have hff := hft ⟨L + 1, L⟩ u [] σc hS
   simp only [List.reverse_nil, List.length_nil, Nat.zero_add, bYs, List.append_nil, renYs, bndR, tyR, Ty.cs] at hff
   simp only [List.length_append] at hu hff
   replace hff := hff (by omega) (by omega) (fun s hs => hb s (List.mem_append_left _ hs))
   have e2 := (anew_Ps (F := NFp) [] u ps).len
   have e3 := (anew_Y (F := NFp) (renPs NFp [] u ps).2.1 (renPs NFp [] u ps).2.2 (.mk rsfn rsst (.mk rsrfk rsrfnm rsrfng rsrfdg rsrfks) rsps rsrs)).len
   have e4 := renPs_l2 [] u ps
   have e5 := bPs_len ps
   rw [List.length_nil] at e4
   obtain ⟨y, u2, hy⟩ : ∃ y u2, renY NFp (renPs NFp [] u ps).2.1 (renPs NFp [] u ps).2.2 (.mk rsfn rsst (.mk rsrfk rsrfnm rsrfng rsrfdg rsrfks) rsps rsrs) = (y, u2) := ⟨_, _, rfl⟩
   rw [hy] at hff hR0 e3
   dsimp only at hff hR0 e3
   clear hy
   generalize (renPs NFp [] u ps).1 = ps' at *
   generalize (renPs NFp [] u ps).2.1 = lp at *
   generalize (renPs NFp [] u ps).2.2 = u1 at *
   have hff2 : JC Tryz.prog (S.E N) 45 [.ptr (L + 1) 0, .sl [] .full, .sl (prmR ps) .no, .sl [[.lit (.bool rsfn), .lit (.string rsst), .lit (.int .u8 rsrfk), .lit (.string rsrfnm), .lit (.bool rsrfng), .sl (limR rsrfdg) .no, .sl (trmR rsrfks) .no, .sl (prmR rsps) .no, .sl (tyR rsrs) .no]] .full] σc fun r σ' => r = .ret (.tup [.sl (prmR ps') .no, .sl [y.cs] .no, .sl (bndR lp.reverse) .no]) ∧ S9 ⟨L + 1, L⟩ u2 σ' ∧ F9 ⟨L + 1, L⟩ nV σc σ' := by
    refine J.callNrm (R := fun r σ' => r = .ret (.tup [.sl (prmR ps') .no, .sl [y.cs] .no, .sl (bndR lp.reverse) .no]) ∧ S9 ⟨L + 1, L⟩ u2 σ' ∧ F9 ⟨L + 1, L⟩ nV σc σ') ?_ (fun v σ' h => ?_) (fun v σ' h => by cases h.1)
    · simp only [nrmR, nrmRR, AV.nrm, prmR_nrm, limR_nrm, trmR_nrm, tyR_nrm]
      exact hff
    · obtain ⟨e, h2⟩ := h
      cases e
      exact ⟨by simp only [AV.nrm, nrmR, nrmRR, prmR_nrm, bndR_nrm, Ty.nrm], h2⟩
   clear hff hft
   refine JD.seqK fun K hK => JD.region ?_
   simp (maxDischargeDepth := 16) [zY, symL, e0]
   refine hff2.mono ?_
   rintro r σ2 ⟨rfl, hS2, hF2⟩
   have f0 := hF2.get (hno σ.length (by omega)) (fun x => x) e0
   have f1 := hF2.get (hno (σ.length + 1) (by omega)) (fun x => x) e1
   have n1 := hF2.not (hno (σ.length + 1) (by omega)) (List.getElem?_eq_some_iff.1 e1).1
   simp (maxDischargeDepth := 16) [zY, symL]
   refine hK _ _ ?_; clear hK K
   have hee := hfe ⟨L + 1, L⟩ u2 lp.reverse σ2 hS2 (by rw [List.length_reverse]; omega) (by omega) (fun s hs => hb s (List.mem_append_right _ hs))
   rw [List.reverse_reverse] at hee
   simp only [Exp.cs] at hee
   generalize (renE NFp lp u2 (.mk bdk bdnm bdty bdrh (.mk bdamk bdamnm bdamng bdamdg bdamtr) bdar bdbd)).1 = ex at *
   generalize (renE NFp lp u2 (.mk bdk bdnm bdty bdrh (.mk bdamk bdamnm bdamng bdamdg bdamtr) bdar bdbd)).2 = u3 at *
   refine JD.keep [3, 4, 6, 8, 9, 10] fun tm => ?_
   simp only [sel, List.contains_cons, List.contains_nil, Bool.or_false, Nat.reduceBEq, Bool.false_eq_true, if_false, if_true, Bool.or_true, Bool.true_or]
   refine JD.seqK fun K hK => JD.region ?_
   simp (maxDischargeDepth := 16) [zY, symL, f0]
   refine hee.mono ?_
   rintro r σ3 ⟨rfl, hS3, hF3⟩
   have hn0 := fun p hp => hF2.not (hno p hp) (by omega)
   have hfl2 := hF2.len
   have g0 := hF3.get (hn0 σ.length (by omega)) (fun x => x) f0
   have g1 := hF3.get n1 (fun x => x) f1
   have hl3 := hF3.len
   obtain ⟨tok2, gr, gt⟩ := hS3.a
   have hkf : ∀ p, p < σ.length → σ3[p]? = σ[p]? := fun p hp => ((hF3.keep p (by omega) (hn0 p (by omega)) (fun x => x)).trans (hF2.keep p (by omega) (hno p (by omega)) (fun x => x))).trans (hkd p hp)
   obtain ⟨yfn, yst, ⟨yrfk, yrfnm, yrfng, yrfdg, yrfks⟩, yps, yrs⟩ := y
   obtain ⟨xk, xnm, xty, xrh, ⟨xamk, xamnm, xamng, xamdg, xamtr⟩, xar, xbd⟩ := ex
   simp only [Exp.cs, Ty.cs]
   simp only [Fun.cs] at hR0
   simp (maxDischargeDepth := 16) [zY, symL]
   refine hK _ _ ?_; clear hK K
   have lr := (List.getElem?_eq_some_iff.1 gr).1
   dsimp only at gr lr
   have k0 := (st_old (l := [AObj.cells [.lit (.int .u8 xk), .lit (.string xnm), .sl (tyR xty) .no, .sl (rhsR xrh) .no, .lit (.int .u8 xamk), .lit (.string xamnm), .lit (.bool xamng), .sl (limR xamdg) .no, .lit (.bool xamtr), .sl (armR xar) .no, .sl (expR xbd) .no] 49]) (List.getElem?_eq_some_iff.1 g0).1).trans g0
   have k1 := (st_old (l := [AObj.cells [.lit (.int .u8 xk), .lit (.string xnm), .sl (tyR xty) .no, .sl (rhsR xrh) .no, .lit (.int .u8 xamk), .lit (.string xamnm), .lit (.bool xamng), .sl (limR xamdg) .no, .lit (.bool xamtr), .sl (armR xar) .no, .sl (expR xbd) .no] 49]) (List.getElem?_eq_some_iff.1 g1).1).trans g1
   have kr := (st_old (l := [AObj.cells [.lit (.int .u8 xk), .lit (.string xnm), .sl (tyR xty) .no, .sl (rhsR xrh) .no, .lit (.int .u8 xamk), .lit (.string xamnm), .lit (.bool xamng), .sl (limR xamdg) .no, .lit (.bool xamtr), .sl (armR xar) .no, .sl (expR xbd) .no] 49]) lr).trans gr
   have kx : (σ3 ++ [AObj.cells [.lit (.int .u8 xk), .lit (.string xnm), .sl (tyR xty) .no, .sl (rhsR xrh) .no, .lit (.int .u8 xamk), .lit (.string xamnm), .lit (.bool xamng), .sl (limR xamdg) .no, .lit (.bool xamtr), .sl (armR xar) .no, .sl (expR xbd) .no] 49])[σ3.length]? = some (AObj.cells [.lit (.int .u8 xk), .lit (.string xnm), .sl (tyR xty) .no, .sl (rhsR xrh) .no, .lit (.int .u8 xamk), .lit (.string xamnm), .lit (.bool xamng), .sl (limR xamdg) .no, .lit (.bool xamtr), .sl (armR xar) .no, .sl (expR xbd) .no] 49) := by simp
   have kf : ∀ p, p < σ.length → (σ3 ++ [AObj.cells [.lit (.int .u8 xk), .lit (.string xnm), .sl (tyR xty) .no, .sl (rhsR xrh) .no, .lit (.int .u8 xamk), .lit (.string xamnm), .lit (.bool xamng), .sl (limR xamdg) .no, .lit (.bool xamtr), .sl (armR xar) .no, .sl (expR xbd) .no] 49])[p]? = σ[p]? := fun p hp => (st_old (by omega)).trans (hkf p hp)
   have kl : (σ3 ++ [AObj.cells [.lit (.int .u8 xk), .lit (.string xnm), .sl (tyR xty) .no, .sl (rhsR xrh) .no, .lit (.int .u8 xamk), .lit (.string xamnm), .lit (.bool xamng), .sl (limR xamdg) .no, .lit (.bool xamtr), .sl (armR xar) .no, .sl (expR xbd) .no] 49]).length = σ3.length + 1 := by simp
   generalize hXl : σ3.length = X at *
   generalize σ3 ++ [_] = σ4 at *
   clear hee hff2 hS2 hF2 hS3 hF3 hno hn0 g0 g1 gr f0 f1
   refine JD.keep [3, 4, 6, 8, 9, 11] fun tm => ?_
   simp only [sel, List.contains_cons, List.contains_nil, Bool.or_false, Nat.reduceBEq, Bool.false_eq_true, if_false, if_true, Bool.or_true, Bool.true_or]
   refine JD.seqK fun K hK => J.cw (CW.draw (by kernel_rfl) ?_)
   simp (maxDischargeDepth := 16) [zY, k0, k1, kr, kx]
   refine ⟨drawOk_sim [σ.length, X, L + 1, σ.length + 1] [.pure, .reads 0, .pure, .pure, .pure, .pure, .reads 1, .pure, .pure, .pure, .pure, .reads 2, .writes 3, .pure] (.cons (by simp only [List.mem_cons, List.not_mem_nil, or_false, not_or]; omega) (.cons (by simp only [List.mem_cons, List.not_mem_nil, or_false, not_or]; omega) (.cons (by simp only [List.mem_cons, List.not_mem_nil, or_false, not_or]; omega) (.cons (by simp) .nil)))) (.cons .pure (.cons (.reads 0 _ rfl) (.cons .pure (.cons .pure (.cons .pure (.cons .pure (.cons (.reads 1 _ rfl) (.cons .pure (.cons .pure (.cons .pure (.cons .pure (.cons (.reads 2 _ rfl) (.cons (.writes 3 _ rfl) (.cons .pure .nil)))))))))))))) (by kernel_rfl), hK _ _ ?_⟩; clear hK K
   have l4 := (List.getElem?_eq_some_iff.1 k1).1
   obtain ⟨g, hg⟩ := extOf (σ := σ) (σ' := σ4.set (σ.length + 1) (AObj.cells [.lit (.string nm), .sl (prmR ps') .no, .lit (.bool yfn), .lit (.string yst), .lit (.int .u8 yrfk), .lit (.string yrfnm), .lit (.bool yrfng), .sl (limR yrfdg) .no, .sl (trmR yrfks) .no, .sl (prmR yps) .no, .sl (tyR yrs) .no, .lit (.int .u8 xk), .lit (.string xnm), .sl (tyR xty) .no, .sl (rhsR xrh) .no, .lit (.int .u8 xamk), .lit (.string xamnm), .lit (.bool xamng), .sl (limR xamdg) .no, .lit (.bool xamtr), .sl (armR xar) .no, .sl (expR xbd) .no] 58)) (by rw [List.length_set]; omega) fun p hp => by rw [List.getElem?_set_ne (by omega)]; exact kf p hp
   have r1 : (σ4.set (σ.length + 1) (AObj.cells [.lit (.string nm), .sl (prmR ps') .no, .lit (.bool yfn), .lit (.string yst), .lit (.int .u8 yrfk), .lit (.string yrfnm), .lit (.bool yrfng), .sl (limR yrfdg) .no, .sl (trmR yrfks) .no, .sl (prmR yps) .no, .sl (tyR yrs) .no, .lit (.int .u8 xk), .lit (.string xnm), .sl (tyR xty) .no, .sl (rhsR xrh) .no, .lit (.int .u8 xamk), .lit (.string xamnm), .lit (.bool xamng), .sl (limR xamdg) .no, .lit (.bool xamtr), .sl (armR xar) .no, .sl (expR xbd) .no] 58))[σ.length + 1]? = some (AObj.cells [.lit (.string nm), .sl (prmR ps') .no, .lit (.bool yfn), .lit (.string yst), .lit (.int .u8 yrfk), .lit (.string yrfnm), .lit (.bool yrfng), .sl (limR yrfdg) .no, .sl (trmR yrfks) .no, .sl (prmR yps) .no, .sl (tyR yrs) .no, .lit (.int .u8 xk), .lit (.string xnm), .sl (tyR xty) .no, .sl (rhsR xrh) .no, .lit (.int .u8 xamk), .lit (.string xamnm), .lit (.bool xamng), .sl (limR xamdg) .no, .lit (.bool xamtr), .sl (armR xar) .no, .sl (expR xbd) .no] 58) := List.getElem?_set_self l4
   refine JD.ret (hR0 _ _ _ ⟨.tup [.agg [.lit (.string nm), .sl (prmR ps') .no, .lit (.bool yfn), .lit (.string yst), .lit (.int .u8 yrfk), .lit (.string yrfnm), .lit (.bool yrfng), .sl (limR yrfdg) .no, .sl (trmR yrfks) .no, .sl (prmR yps) .no, .sl (tyR yrs) .no, .lit (.int .u8 xk), .lit (.string xnm), .sl (tyR xty) .no, .sl (rhsR xrh) .no, .lit (.int .u8 xamk), .lit (.string xamnm), .lit (.bool xamng), .sl (limR xamdg) .no, .lit (.bool xamtr), .sl (armR xar) .no, .sl (expR xbd) .no], .sl (txtR u3) tok2], ?_, ?_⟩)
   · simp [zA, omap, zC, zB, zX, r1]
   · rw [hg]
     exact done (by simp [AV.pln, plnR, plnRR, limR_pln, trmR_pln, prmR_pln, tyR_pln, rhsR_pln, armR_pln, expR_pln, txtR_pln]) (by simp [AV.nrm, nrmR, limR_nrm, trmR_nrm, prmR_nrm, tyR_nrm, rhsR_nrm, armR_nrm, expR_nrm, txtR_nrm])
end
section
open Go.RowKit
variable {S : Sp} {N : Nat}
end
section
open Go.RowKit Go.Sort
theorem putRow_setRow {w : World} {b : Nat} {c : Array Value} {T : TypeId} {fz : Nat × Nat} (hg : w.heap[b]? = some (.cells c T fz)) (d : Array (List UInt8)) : putRow encStr w b 0 d = w.setRow b (Go.Sort.putCells encStr 0 d c) := by
 have h : (w.heap.modify b (onCells (Go.Sort.putCells encStr 0 d))) = w.heap.modify b fun | .cells _ elem frozen => .cells (Go.Sort.putCells encStr 0 d c) elem frozen | o => o := by
  apply Array.ext_getElem?
  intro k
  simp only [Array.getElem?_modify]
  by_cases hk : b = k
  · subst hk; simp only [if_true, hg, Option.map_some, onCells]
  · simp [hk]
 unfold putRow mapBlock World.setRow
 rw [h]
 rfl
abbrev encA (l : List UInt8) : AV := .lit (.string (strB l))
section
variable {ι : List Nat} {Z : Nat → Nat → Prop} {w : World} {σ : Sto}
theorem Evo.ahead (n : Nat) : Evo ι Z w ι Z (Go.Sort.ahead w n) where
 pre := fun _ _ h => h
 img := fun id _ h _ => ⟨id, h⟩
 zmono := fun _ _ h => h
 zsame := fun _ _ _ => rfl
 csz := fun _ _ => rfl
 size := Nat.le_refl _
 keep := fun _ _ _ => rfl
 os := rfl
 tape := rfl
 output := rfl
 znew := fun _ _ h _ => .inl h
theorem Match.ahead (h : Match σ ι Z w) (n : Nat) : Match σ ι Z (Go.Sort.ahead w n) := h.same (Evo.ahead n) fun _ _ _ => rfl
theorem Match.rowed (h : Match σ ι Z w) {i g : Nat} {ss : List (List UInt8)} {T : TypeId} {old : Array Value} (hσ : σ[i]? = some (.cells (ss.map encA) T)) (hi : ι[i]? = some g) (hg : w.heap[g]? = some (.cells old T (0, 0))) (hl : ss.length ≤ old.size) (ts : List (List UInt8)) (ht : ts.length = ss.length) (n : Nat) (os : Array Obj) :
    Evo ι Z w ι Z (Go.Sort.grow (putRow encStr (Go.Sort.ahead w n) g 0 ts.toArray) os) ∧ Match (σ.set i (.cells (ts.map encA) T)) ι Z (Go.Sort.grow (putRow encStr (Go.Sort.ahead w n) g 0 ts.toArray) os) := by
 have e1 := Evo.ahead (ι := ι) (Z := Z) (w := w) n
 have m1 := h.ahead n
 have hg1 : (Go.Sort.ahead w n).heap[g]? = some (.cells old T (0, 0)) := hg
 rw [putRow_setRow hg1]
 obtain ⟨e2, m2⟩ := m1.setCells (cs := ts.map encA) (c := Go.Sort.putCells encStr 0 ts.toArray old) hσ hi hg1 (by simp [Go.Sort.putCells]) (by simp [Go.Sort.putCells]; omega) (fun j d u hd hu => by
  rw [List.getElem?_map, Option.map_eq_some_iff] at hd
  obtain ⟨s, hs, rfl⟩ := hd
  have hj := (List.getElem?_eq_some_iff.1 hs).1
  unfold Go.Sort.putCells at hu
  rw [Array.getElem?_mapIdx, Option.map_eq_some_iff] at hu
  obtain ⟨x, _, rfl⟩ := hu
  rw [if_pos ⟨by omega, by simpa using hj⟩]
  refine ⟨rfl, ?_⟩
  have hq := (List.getElem?_eq_some_iff.1 hs).2
  have : (ts.toArray)[j - 0]! = s := by simp [hj, hq]
  rw [this]
  exact .lit _ rfl)
 have hb : Below ((Go.Sort.ahead w n).setRow g (Go.Sort.putCells encStr 0 ts.toArray old)).heap.size ((Go.Sort.ahead w n).setRow g (Go.Sort.putCells encStr 0 ts.toArray old)) (Go.Sort.grow ((Go.Sort.ahead w n).setRow g (Go.Sort.putCells encStr 0 ts.toArray old)) os) :=
  ⟨rfl, rfl, rfl, by show _ ≤ (_ ++ os).size; rw [Array.size_append]; omega, fun j hj => by show (_ ++ os)[j]? = _; rw [Array.getElem?_append_left hj]⟩
 exact ⟨(e1.trans e2).trans (.ofBelow m2 hb), m2.below hb⟩
end
end
section
open Go.RowKit
variable {S : Sp} {N : Nat}
def OutX (X : Nat → Prop) (σ : Sto) (oid : Nat) (es : List ByteArray) : Prop :=
 ∃ lv d, σ[oid]? = some (.cells [lv] 23) ∧ Held σ 9 1 (txtR es) lv d ∧ (∀ g, d = some g → g ≠ oid ∧ ¬ X g) ∧ ¬ X oid ∧ ∀ p, X p → p < σ.length
theorem OutX.app {X : Nat → Prop} {σ : Sto} {oid : Nat} {es : List ByteArray} (h : OutX X σ oid es) (l : Sto) : OutX X (σ ++ l) oid es := by
 obtain ⟨lv, d, h1, h2, h3, h4, h5⟩ := h
 exact ⟨lv, d, (st_old (List.getElem?_eq_some_iff.1 h1).1).trans h1, h2.app l, h3, h4, fun p hp => by have := h5 p hp; simp; omega⟩
theorem OutX.box {X : Nat → Prop} {σ : Sto} {oid : Nat} {es : List ByteArray} (h : OutX X σ oid es) (o : AObj) : OutX (fun p => X p ∨ p = σ.length) (σ ++ [o]) oid es := by
 obtain ⟨lv, d, h1, h2, h3, h4, h5⟩ := h
 have l1 := (List.getElem?_eq_some_iff.1 h1).1
 refine ⟨lv, d, (st_old l1).trans h1, h2.app _, fun g hg => ⟨(h3 g hg).1, fun hx => ?_⟩, fun hx => ?_, fun p hp => ?_⟩
 · rcases hx with hx | hx
   · exact (h3 g hg).2 hx
   · subst hg
     rcases h2 with ⟨h, _⟩ | ⟨id, h, _, h'⟩
     · cases h
     · cases h; have := (List.getElem?_eq_some_iff.1 h').1; omega
 · rcases hx with hx | hx
   · exact h4 hx
   · omega
 · rcases hp with hp | hp
   · have := h5 p hp; simp; omega
   · subst hp; simp
theorem txtR_row (l : List ByteArray) : ∀ r ∈ txtR l, r.length = 1 := by
 intro r hr
 unfold txtR at hr
 obtain ⟨x, _, rfl⟩ := List.mem_map.1 hr
 rfl
theorem OutX.push {X : Nat → Prop} {σ : Sto} {oid : Nat} {es : List ByteArray} (h : OutX X σ oid es) (nm : ByteArray) (hn : es.length ≤ 1000000000000) : ∃ lv d, σ[oid]? = some (.cells [lv] 23) ∧ (kill d (σ ++ [.cells [.lit (.string nm)] 9]))[oid]? = some (.cells [lv] 23) ∧ (kill d (σ ++ [.cells [.lit (.string nm)] 9])).length = σ.length + 1 ∧
    (∀ (ρ : Operand → Option AV) (x y : Operand) (ds : Option Tmp) (ty : TypeId) (po : String) (af : Array Edge) (gu : Option (Nat × Bool)), ρ x = some lv → ρ y = some (.asl σ.length 0 1 1) → evStep Tryz.prog [23] ρ (σ ++ [.cells [.lit (.string nm)] 9]) ⟨ds, .call ⟨.builtin .append, #[x, y], #[23, 23]⟩, ty, po, af, gu⟩ = some (.val (.asl (σ.length + 1) 0 (es.length + 1) 1) (kill d (σ ++ [.cells [.lit (.string nm)] 9]) ++ [.cells ((txtR es).flatten ++ [.lit (.string nm)]) 9]) (.grows d (σ.length + 1)))) ∧
    OutX X ((kill d (σ ++ [.cells [.lit (.string nm)] 9])).set oid (.cells [.asl (σ.length + 1) 0 (es.length + 1) 1] 23) ++ [.cells ((txtR es).flatten ++ [.lit (.string nm)]) 9]) oid (es ++ [nm]) ∧
    ExtX X σ ((kill d (σ ++ [.cells [.lit (.string nm)] 9])).set oid (.cells [.asl (σ.length + 1) 0 (es.length + 1) 1] 23) ++ [.cells ((txtR es).flatten ++ [.lit (.string nm)]) 9]) := by
 obtain ⟨lv, d, h1, h2, h3, h4, h5⟩ := h
 have l1 := (List.getElem?_eq_some_iff.1 h1).1
 have hk : (kill d (σ ++ [.cells [.lit (.string nm)] 9])).length = σ.length + 1 := by rw [kill_len]; simp
 have hko : (kill d (σ ++ [.cells [.lit (.string nm)] 9]))[oid]? = some (.cells [lv] 23) := by
  cases d with
  | none => exact (st_old l1).trans h1
  | some g => show (List.set _ g _)[oid]? = _; rw [List.getElem?_set_ne (h3 g rfl).1]; exact (st_old l1).trans h1
 have hkx : ∀ p, X p → (kill d (σ ++ [.cells [.lit (.string nm)] 9]))[p]? = σ[p]? := fun p hp => by
  cases d with
  | none => exact st_old (h5 p hp)
  | some g => show (List.set _ g _)[p]? = _; rw [List.getElem?_set_ne (fun e => (h3 g rfl).2 (by rw [e]; exact hp))]; exact st_old (h5 p hp)
 refine ⟨lv, d, h1, hko, hk, fun ρ x y ds ty po af gu hx hy => ?_, ?_, ?_⟩
 · have hap := apdM (P := Tryz.prog) (σ := σ ++ [.cells [.lit (.string nm)] 9]) (t := 23) (e := 9) (k := 0) (by_ := 16) (es := txtR es) (lv := lv) (d := d) [.lit (.string nm)] (.asl σ.length 0 1 1) (by simp [rowsA, chunks]) (h2.app _) (txtR_row _) rfl (by kernel_rfl) (by kernel_rfl) (by kernel_rfl) (by kernel_rfl) (by simp; omega) (by simp; omega) ρ x y hx hy
   rw [es_appendM _ _ _ rfl, hap]
   simp
 · refine ⟨.asl (σ.length + 1) 0 (es.length + 1) 1, some (σ.length + 1), ?_, .inr ⟨_, rfl, by simp, ?_⟩, fun g hg => ?_, h4, fun p hp => by have := h5 p hp; simp [hk]; omega⟩
   · rw [List.getElem?_append_left (by rw [List.length_set, hk]; omega), List.getElem?_set_self (by rw [hk]; omega)]
   · rw [List.getElem?_append_right (by rw [List.length_set, hk]; exact Nat.le_refl _), List.length_set, hk, Nat.sub_self, txtR_app, List.flatten_append]; rfl
   · cases hg; exact ⟨by omega, fun hx => by have := h5 _ hx; omega⟩
 · refine ⟨by simp [hk]; omega, fun p hp => ?_⟩
   have := h5 p hp
   rw [List.getElem?_append_left (by rw [List.length_set, hk]; omega), List.getElem?_set_ne (fun e => h4 (by rw [e]; exact hp))]
   exact hkx p hp
theorem frz_texts {σ : Sto} {n g : Nat} {l zs : List (List UInt8)} {T : TypeId} (hg : σ[g]? = some (.cells ((l ++ zs).map encA) T)) (hn : n ≤ g) : Frz σ n (.asl g 0 l.length 1) (.sl (txtR (l.map strB)) .no) := by
 refine .asl g 0 l.length 1 _ T _ (fun i j => encA (l.getD i [])) hg hn (by simp) (fun i f hf => txtR_row _ f (List.mem_of_getElem? hf)) (fun i j f d hf hd => ?_) fun i j f d hf hd => ?_
 all_goals
  unfold txtR at hf
  rw [List.map_map, List.getElem?_map, Option.map_eq_some_iff] at hf
  obtain ⟨s, hs, rfl⟩ := hf
  have hi := (List.getElem?_eq_some_iff.1 hs).1
  cases j with
  | succ j => simp at hd
  | zero =>
   have hd : some (AV.lit (.string (strB s))) = some d := hd
   cases hd
   first
   | (rw [Nat.zero_add, Nat.mul_one, Nat.add_zero, List.getElem?_map, List.getElem?_append_left hi, List.getD_eq_getElem?_getD, hs]; rfl)
   | (rw [List.getD_eq_getElem?_getD, hs]; exact .same _ (.lit _))
end
section
open Go.RowKit Go.Sort Go.Maps Go.Shelf
section
variable {ι : List Nat} {Z : Nat → Nat → Prop} {w : World} {σ : Sto}
end
theorem sorts_in (m : Nat) : AnyZ.SortsIn Tryz.prog Tryz.sorted69_ren Fence.wide m :=
 ⟨fun blk off cap ss W hH hblk hsz => callsIn_wide.2 (AnyM.slices_Sort_string Tryz.sort109 blk off cap ss W hH hblk hsz),
  fun p cap W => callsIn_wide.2 (AnyM.slices_Sort_string_none Tryz.sort109 p cap W)⟩
def Fits (l : List ByteArray) (n : Nat) : Prop := l.length ≤ n ∧ ∀ s ∈ l, s.size ≤ n
theorem Fits.app {a b : List ByteArray} {m n : Nat} (h : Fits a m) (k : Fits b n) : Fits (a ++ b) (m + n) := ⟨by have := h.1; have := k.1; simp; omega, fun s hs => by
 rcases List.mem_append.1 hs with hs | hs
 · have := h.2 s hs; omega
 · have := k.2 s hs; omega⟩
theorem Fits.mono {a : List ByteArray} {m n : Nat} (h : Fits a m) (hn : m ≤ n) : Fits a n := ⟨Nat.le_trans h.1 hn, fun s hs => Nat.le_trans (h.2 s hs) hn⟩
theorem Fits.nil (n : Nat) : Fits [] n := ⟨by simp, fun s hs => by cases hs⟩
open Classical in
noncomputable def setL (G : ByteArray → Prop) : List ByteArray := if h : ∃ l : List ByteArray, l.Nodup ∧ ∀ s, s ∈ l ↔ G s then (sortB h.choose).map strB else []
variable {S : Sp} {N : Nat}
end
section
open Go.RowKit
def Fin1 (n : Nat) (G : ByteArray → Prop) : Prop := ∃ l : List ByteArray, l.length ≤ n ∧ ∀ s, s ∈ l ↔ G s
theorem Fin1.no : Fin1 0 fun _ => False := ⟨[], Nat.le_refl _, by simp⟩
end
section
open Go.RowKit
variable {S : Sp} {N : Nat}
end
section
open Go.RowKit
variable {S : Sp} {N : Nat}
def Fun.sm : Fun → Prop
 | .mk nm ps rs bd => (ps.length ≤ 140737488355328 ∧ prmSm ps) ∧ rs.sm ∧ bd.sm
end
section
open Go.RowKit
variable {S : Sp} {N : Nat}
end
section
open Go.RowKit
variable {S : Sp} {N : Nat}
end
end Go.Proofs.YteajcnilihgheaaGreatDoor
