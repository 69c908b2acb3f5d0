/-
 EV: the package rename: rhs: a right side.
-/
import Derived.Test.YteajcnilihgheaaGreatDoorRw10M
namespace Go.Proofs.YteajcnilihgheaaGreatDoor
set_option maxRecDepth 100000
set_option maxHeartbeats 8000000
set_option linter.unusedSimpArgs false
set_option linter.unusedVariables false
section
open Go.RowKit
variable {S : Sp} {N : Nat}
theorem rhsC_j (H : RnH S) (k : Int) (nm : ByteArray) (c2 c3 c4 c6 : AV) (bd : List Exp) (he : ∀ x ∈ bd, OneJ S N 33 Exp.cs (renE NFp) bE x) (q : RQ) (u : List ByteArray) (st : ByteArray → List ByteArray) (l : Bnd) (P : Nat) (x5 : AV) (σ : Sto) (h : St q u st σ) (hl : Top l st) (hu : u.length + (bEs bd).length ≤ 1000000000) (hb : ∀ s ∈ bEs bd, s.size ≤ 1000000000) (hlen : bd.length ≤ 1000000000)
    (g0 : σ[P]? = some (.cells [.ptr q.rid 0] 93)) (g1 : σ[P + 1]? = some (.cells [.lit (.int .u8 k), .lit (.string nm), c2, c3, c4, .sl (expR bd) .no, c6] 52)) (g3 : σ[P + 3]? = some (.cells [x5] 47)) (hno : ¬ Own q σ (P + 3)) :
    JC Tryz.prog (S.E N) 98 [.ptr (P + 1) 0, .ptr P 0, .ptr (P + 3) 0] σ fun r σ' => r = .ret (.tup []) ∧ St q (renEs NFp l u bd).2 st σ' ∧ Fr q (fun p => p = P + 3) σ σ' ∧ σ'[P + 3]? = some (.cells [.sl (expR (renEs NFp l u bd).1) .no] 47) := by
 refine JC.startG (fn := Tryz.f98) (codeOf H.code Tryz.func98 rfl (by kernel_rfl)) rfl H.rh1 rfl (zL rfl) fun tm => ?_
 refine JD.hide fun R0 hR0 => JD.region ?_
 simp (maxDischargeDepth := 16) [zY, symL, g0, g1]
 refine (eachE_j H.code H.ee q u st l bd .no σ h hl hu hb hlen he).mono ?_
 rintro r σ1 ⟨rfl, hS1, hF1⟩
 have b3 := hF1.get hno (fun x => x) g3
 have n3 := hF1.not hno (List.getElem?_eq_some_iff.1 g3).1
 have hl1 := (List.getElem?_eq_some_iff.1 b3).1
 simp (maxDischargeDepth := 16) [zY, symL, b3]
 exact hR0 _ _ _ ⟨.tup [], by simp [zA, omap], rfl, hS1.set n3 _, hF1.none.trans0 (hS1.frS (V := fun p => p = P + 3) n3 (.inl rfl) _), List.getElem?_set_self hl1⟩
theorem box4 (σ : Sto) (a b c d : AObj) : (σ ++ [a, b, c, d])[σ.length]? = some a ∧ (σ ++ [a, b, c, d])[σ.length + 1]? = some b ∧ (σ ++ [a, b, c, d])[σ.length + 2]? = some c ∧ (σ ++ [a, b, c, d])[σ.length + 3]? = some d ∧ (σ ++ [a, b, c, d]).length = σ.length + 4 := by simp
theorem rhs_j (H : RnH S) (k : Int) (nm : ByteArray) (ats : List Atm) (ps : List Prm) (rs : List Ty) (bd : List Exp) (ts : List Trm) (hn : (Rhs.mk k nm ats ps rs bd ts).n ≤ 1000000000) (hN : 16 * (Rhs.mk k nm ats ps rs bd ts).n + 4 < N) (he : ∀ x ∈ bd, OneJ S N 33 Exp.cs (renE NFp) bE x) :
    OneJ S N 63 Rhs.cs (renR NFp) bR (.mk k nm ats ps rs bd ts) := by
 intro q u st l σ h hl hu hb
 refine J.callNrm (R := fun r σ' => r = .ret (.agg (renR NFp l u (.mk k nm ats ps rs bd ts)).1.cs) ∧ St q (renR NFp l u (.mk k nm ats ps rs bd ts)).2 st σ' ∧ Fr q nV σ σ') ?_ (fun v σ' h => ?_) (fun v σ' h => by cases h.1)
 rotate_left
 · obtain ⟨e, h2⟩ := h
   cases e
   exact ⟨by simp only [AV.nrm, Rhs.nrm], h2⟩
 simp only [nrmR, AV.nrm, Rhs.nrm]
 simp only [Rhs.n] at hn hN
 have hbb : bR (.mk k nm ats ps rs bd ts) = bPs ps ++ bYs rs ++ bEs bd := by rw [bR]
 rw [hbb] at hu hb
 simp only [List.length_append] at hu
 have an1 := (anew_Ps (F := NFp) l u ps).len
 have an2 := (anew_Ys (F := NFp) (renPs NFp l u ps).2.1 (renPs NFp l u ps).2.2 rs).len
 have an3 := (anew_Es (F := NFp) (renPs NFp l u ps).2.1 (renYs NFp (renPs NFp l u ps).2.1 (renPs NFp l u ps).2.2 rs).2 bd).len
 have hlp := prmN_len ps
 have hlr := tyN_len rs
 have hlb := expN_len bd
 have hun : u.length ≤ 1000000000 := by omega
 refine JC.startG (fn := Tryz.f63) (codeOf H.code Tryz.func63 rfl (by kernel_rfl)) rfl H.rh rfl (zL rfl) fun tm => ?_
 refine JD.hide fun R0 hR0 => ?_
 have ef : renR NFp l u (.mk k nm ats ps rs bd ts) = (.mk k nm (renAs l ats) (renPs NFp l u ps).1 (renYs NFp (renPs NFp l u ps).2.1 (renPs NFp l u ps).2.2 rs).1 (renEs NFp (renPs NFp l u ps).2.1 (renYs NFp (renPs NFp l u ps).2.1 (renPs NFp l u ps).2.2 rs).2 bd).1 (renTs l ts), (renEs NFp (renPs NFp l u ps).2.1 (renYs NFp (renPs NFp l u ps).2.1 (renPs NFp l u ps).2.2 rs).2 bd).2) := by rw [renR]; rfl
 rw [ef] at hR0
 simp only [Rhs.cs] at hR0 ⊢
 refine JD.seqK fun K hK => J.cw (CW.region ?_)
 simp (maxDischargeDepth := 16) [zY]
 refine hK _ _ ?_; clear hK K
 refine JD.seqK fun K hK => J.cw (CW.region ?_)
 simp (maxDischargeDepth := 16) [zY]
 refine hK _ _ ?_; clear hK K
 obtain ⟨g0, g1, g2, g3, hla⟩ := box4 σ (.cells [.ptr q.rid 0] 93) (.cells [.lit (.int .u8 k), .lit (.string nm), .sl (atmR ats) .no, .sl (prmR ps) .no, .sl (tyR rs) .no, .sl (expR bd) .no, .sl (trmR ts) .no] 52) (.cells [.lit (.int .u8 0), .lit (.string ⟨#[]⟩), .sl [] .full, .sl [] .full, .sl [] .full, .sl [] .full, .sl [] .full] 52) (.cells [.sl [] .full] 47)
 have hSa := h.app [.cells [.ptr q.rid 0] 93, .cells [.lit (.int .u8 k), .lit (.string nm), .sl (atmR ats) .no, .sl (prmR ps) .no, .sl (tyR rs) .no, .sl (expR bd) .no, .sl (trmR ts) .no] 52, .cells [.lit (.int .u8 0), .lit (.string ⟨#[]⟩), .sl [] .full, .sl [] .full, .sl [] .full, .sl [] .full, .sl [] .full] 52, .cells [.sl [] .full] 47]
 have hFa := h.frA nV [.cells [.ptr q.rid 0] 93, .cells [.lit (.int .u8 k), .lit (.string nm), .sl (atmR ats) .no, .sl (prmR ps) .no, .sl (tyR rs) .no, .sl (expR bd) .no, .sl (trmR ts) .no] 52, .cells [.lit (.int .u8 0), .lit (.string ⟨#[]⟩), .sl [] .full, .sl [] .full, .sl [] .full, .sl [] .full, .sl [] .full] 52, .cells [.sl [] .full] 47]
 have hno := fun p hp => h.newA [.cells [.ptr q.rid 0] 93, .cells [.lit (.int .u8 k), .lit (.string nm), .sl (atmR ats) .no, .sl (prmR ps) .no, .sl (tyR rs) .no, .sl (expR bd) .no, .sl (trmR ts) .no] 52, .cells [.lit (.int .u8 0), .lit (.string ⟨#[]⟩), .sl [] .full, .sl [] .full, .sl [] .full, .sl [] .full, .sl [] .full] 52, .cells [.sl [] .full] 47] (p := p) hp
 generalize hP : σ.length = P at *
 generalize σ ++ [_, _, _, _] = σa at *
 refine JD.keep [2, 3, 4, 5] fun tm => ?_
 simp only [sel, List.contains_cons, List.contains_nil, Bool.or_false, Nat.reduceBEq, Bool.false_eq_true, if_false, if_true, Bool.or_true, Bool.true_or]
 have hRA := hSa.rs hl hun
 have hatm := fun (Q : ARes → Sto → Prop) (args : List AV) => call_reachA (P := Tryz.prog) (N := N) (σ := σa) (Q := Q) (args := args) ⟨q.rid, l⟩ ats H.ea
 have htrm := fun (Q : ARes → Sto → Prop) (args : List AV) => call_reachT (P := Tryz.prog) (N := N) (σ := σa) (Q := Q) (args := args) (some ⟨q.rid, l⟩) ts H.et
 rw [show oneTs (some ⟨q.rid, l⟩) ts = renTs l ts from (renTs_map l ts).symm] at htrm
 dsimp only at hatm
 generalize renAs l ats = ats' at *
 generalize renTs l ts = ts' at *
 refine JD.seqK fun K hK => J.cw (CW.draw (by kernel_rfl) ?_)
 simp (maxDischargeDepth := 16) [zY, g0, g1]
 refine hatm _ _ (by simp only [nrmR, AV.nrm, atmR_nrm]) hRA (by omega) (by omega) fun hac => ?_
 simp (maxDischargeDepth := 16) [zY, g0, g1, hac]
 refine htrm _ _ (by simp only [nrmR, AV.nrm, trmR_nrm, fnT]) (fun m e => by cases e; exact hRA) (by omega) (by omega) fun hac2 => ?_
 have s1 : ∀ o, (σa.set (P + 1) o)[P + 1]? = some o := fun o => List.getElem?_set_self (by omega)
 simp (maxDischargeDepth := 16) [zY, g0, g1, hac, hac2, s1]
 refine ⟨drawOk_sim [P, (P + 1)] [.pure, .reads 1, .reads 0, .pure, .lcalls (fun _ => true), .pure, .reads 1, .reads 0, .pure, .lcalls (fun _ => true), .pure, .writes 1, .pure, .writes 1] (.cons (by simp) (.cons (by simp) .nil)) (.cons .pure (.cons (.reads 1 _ rfl) (.cons (.reads 0 _ rfl) (.cons .pure (.cons (.lcalls _ _ fun i a ha hi => rfl) (.cons .pure (.cons (.reads 1 _ rfl) (.cons (.reads 0 _ rfl) (.cons .pure (.cons (.lcalls _ _ fun i a ha hi => rfl) (.cons .pure (.cons (.writes 1 _ rfl) (.cons .pure (.cons (.writes 1 _ rfl) .nil)))))))))))))) (by kernel_rfl), hK _ _ ?_⟩; clear hK K
 have n1 := hno (P + 1) (by omega)
 have hSb := hSa.set n1 (.cells [.lit (.int .u8 k), .lit (.string nm), .sl (atmR ats') .no, .sl (prmR ps) .no, .sl (tyR rs) .no, .sl (expR bd) .no, .sl (trmR ts') .no] 52)
 have hFb := hSa.frS (V := fun p => P ≤ p) n1 (.inl (by show P ≤ P + 1; omega)) (.cells [.lit (.int .u8 k), .lit (.string nm), .sl (atmR ats') .no, .sl (prmR ps) .no, .sl (tyR rs) .no, .sl (expR bd) .no, .sl (trmR ts') .no] 52)
 have b1 := s1 (.cells [.lit (.int .u8 k), .lit (.string nm), .sl (atmR ats') .no, .sl (prmR ps) .no, .sl (tyR rs) .no, .sl (expR bd) .no, .sl (trmR ts') .no] 52)
 have b0 : (σa.set (P + 1) (.cells [.lit (.int .u8 k), .lit (.string nm), .sl (atmR ats') .no, .sl (prmR ps) .no, .sl (tyR rs) .no, .sl (expR bd) .no, .sl (trmR ts') .no] 52))[P]? = some (.cells [.ptr q.rid 0] 93) := by rw [List.getElem?_set_ne (by omega)]; exact g0
 have b2 : (σa.set (P + 1) (.cells [.lit (.int .u8 k), .lit (.string nm), .sl (atmR ats') .no, .sl (prmR ps) .no, .sl (tyR rs) .no, .sl (expR bd) .no, .sl (trmR ts') .no] 52))[P + 2]? = some (.cells [.lit (.int .u8 0), .lit (.string ⟨#[]⟩), .sl [] .full, .sl [] .full, .sl [] .full, .sl [] .full, .sl [] .full] 52) := by rw [List.getElem?_set_ne (by omega)]; exact g2
 have b3 : (σa.set (P + 1) (.cells [.lit (.int .u8 k), .lit (.string nm), .sl (atmR ats') .no, .sl (prmR ps) .no, .sl (tyR rs) .no, .sl (expR bd) .no, .sl (trmR ts') .no] 52))[P + 3]? = some (.cells [.sl [] .full] 47) := by rw [List.getElem?_set_ne (by omega)]; exact g3
 have nb : ∀ j, P ≤ j → j < P + 4 → ¬ Own q (σa.set (P + 1) (.cells [.lit (.int .u8 k), .lit (.string nm), .sl (atmR ats') .no, .sl (prmR ps) .no, .sl (tyR rs) .no, .sl (expR bd) .no, .sl (trmR ts') .no] 52)) j := fun j h1 h2 => hFb.not (hno j h1) (by omega)
 have hlb2 : (σa.set (P + 1) (.cells [.lit (.int .u8 k), .lit (.string nm), .sl (atmR ats') .no, .sl (prmR ps) .no, .sl (tyR rs) .no, .sl (expR bd) .no, .sl (trmR ts') .no] 52)).length = P + 4 := by simp [hla]
 generalize σa.set (P + 1) (.cells [.lit (.int .u8 k), .lit (.string nm), .sl (atmR ats') .no, .sl (prmR ps) .no, .sl (tyR rs) .no, .sl (expR bd) .no, .sl (trmR ts') .no] 52) = σb at *
 have hFab : Fr q nV σ σb := hFa.trans hFb fun p hp => .inr (by omega)
 refine JD.keep [2, 3, 4, 5] fun tm => ?_
 simp only [sel, List.contains_cons, List.contains_nil, Bool.or_false, Nat.reduceBEq, Bool.false_eq_true, if_false, if_true, Bool.or_true, Bool.true_or]
 refine JD.seqK fun K hK => JD.region ?_
 simp (maxDischargeDepth := 16) [zY, symL, b0, b1]
 have hfun := fun_j (N := N) H (by omega) rs (fun x hx => kind_j H x.n x (Nat.le_refl _) (by have := tyN_mem hx; omega) (by have := tyN_mem hx; omega)) ps (fun p hp => by
  have h1 := prmN_mem hp
  have h2 := p.tyOf_n
  exact kind_j H p.tyOf.n p.tyOf (Nat.le_refl _) (by omega) (by omega))
 refine (hfun q u (renEs NFp (renPs NFp l u ps).2.1 (renYs NFp (renPs NFp l u ps).2.1 (renPs NFp l u ps).2.2 rs).2 bd).2 st l (fun p => p = P + 3) (fun σ' => σ'[P + 3]? = some (.cells [.sl (expR (renEs NFp (renPs NFp l u ps).2.1 (renYs NFp (renPs NFp l u ps).2.1 (renPs NFp l u ps).2.2 rs).2 bd).1) .no] 47)) 98 [.ptr (P + 1) 0, .ptr P 0, .ptr (P + 3) 0] .no .no σb hSb hl (by omega) (by omega) (fun s hs => hb s (by simp [hs])) (fun s hs => hb s (by simp [hs])) (by omega) (by omega) (fun p hp => by omega) (fun st1 σ1 hS1 hT1 hF1 => ?_)).mono ?_
 · refine rhsC_j H k nm _ _ _ _ bd he q _ st1 (renPs NFp l u ps).2.1 P _ σ1 hS1 hT1 (by omega) (fun s hs => hb s (by simp [hs])) (by omega) (hF1.get (nb P (by omega) (by omega)) (fun x => x) b0) (hF1.get (nb (P + 1) (by omega) (by omega)) (fun x => x) b1) (hF1.get (nb (P + 3) (by omega) (by omega)) (fun x => x) b3) (hF1.not (nb (P + 3) (by omega) (by omega)) (by omega))
 rintro r σc ⟨rfl, hSc, hFc, σ2, hR, hF2, hF3⟩
 have c3 := hF3.get (hF2.not (nb (P + 3) (by omega) (by omega)) (by omega)) (fun v => by omega) hR
 have c1 := hFc.get (nb (P + 1) (by omega) (by omega)) (fun v => by omega) b1
 have c2 := hFc.get (nb (P + 2) (by omega) (by omega)) (fun v => by omega) b2
 have nc : ∀ j, P ≤ j → j < P + 4 → ¬ Own q σc j := fun j h1 h2 => hFc.not (nb j h1 h2) (by omega)
 have hcl := hFc.len
 have hFac : Fr q nV σ σc := hFab.trans hFc fun p hp => .inr (by omega)
 generalize (renEs NFp (renPs NFp l u ps).2.1 (renYs NFp (renPs NFp l u ps).2.1 (renPs NFp l u ps).2.2 rs).2 bd).1 = bd' at *
 generalize (renEs NFp (renPs NFp l u ps).2.1 (renYs NFp (renPs NFp l u ps).2.1 (renPs NFp l u ps).2.2 rs).2 bd).2 = ub at *
 generalize (renPs NFp l u ps).1 = ps' at *
 generalize (renYs NFp (renPs NFp l u ps).2.1 (renPs NFp l u ps).2.2 rs).1 = rs' at *
 have t1 : ∀ o, (σc.set (P + 1) o)[P + 1]? = some o := fun o => List.getElem?_set_self (by omega)
 have t2 : ∀ o, (σc.set (P + 1) o)[P + 2]? = some (.cells [.lit (.int .u8 0), .lit (.string ⟨#[]⟩), .sl [] .full, .sl [] .full, .sl [] .full, .sl [] .full, .sl [] .full] 52) := fun o => by rw [List.getElem?_set_ne (by omega)]; exact c2
 have t3 : ∀ o, (σc.set (P + 1) o)[P + 3]? = some (.cells [.sl (expR bd') .no] 47) := fun o => by rw [List.getElem?_set_ne (by omega)]; exact c3
 simp (maxDischargeDepth := 16) [zY, symL, c1, t1]
 refine hK _ _ ?_; clear hK K
 refine JD.seqK fun K hK => J.cw (CW.region ?_)
 simp (maxDischargeDepth := 16) [zY, t1, t3]
 refine hK _ _ ?_; clear hK K
 refine JD.seqK fun K hK => J.cw (CW.region ?_)
 simp (maxDischargeDepth := 16) [zY, t1, t2]
 refine hK _ _ ?_; clear hK K
 have hS1 := hSc.set (nc (P + 1) (by omega) (by omega)) (.cells [.lit (.int .u8 k), .lit (.string nm), .sl (atmR ats') .no, .sl (prmR ps') .no, .sl (tyR rs') .no, .sl (expR bd') .no, .sl (trmR ts') .no] 52)
 have hF1 := hSc.frS (V := fun p => P ≤ p) (nc (P + 1) (by omega) (by omega)) (.inl (by show P ≤ P + 1; omega)) (.cells [.lit (.int .u8 k), .lit (.string nm), .sl (atmR ats') .no, .sl (prmR ps') .no, .sl (tyR rs') .no, .sl (expR bd') .no, .sl (trmR ts') .no] 52)
 have n2' := hF1.not (nc (P + 2) (by omega) (by omega)) (by omega)
 have hS2 := hS1.set n2' (.cells [.lit (.int .u8 k), .lit (.string nm), .sl (atmR ats') .no, .sl (prmR ps') .no, .sl (tyR rs') .no, .sl (expR bd') .no, .sl (trmR ts') .no] 52)
 have hF2' := hS1.frS (V := fun p => P ≤ p) n2' (.inl (by show P ≤ P + 2; omega)) (.cells [.lit (.int .u8 k), .lit (.string nm), .sl (atmR ats') .no, .sl (prmR ps') .no, .sl (tyR rs') .no, .sl (expR bd') .no, .sl (trmR ts') .no] 52)
 have r4 : ((σc.set (P + 1) (.cells [.lit (.int .u8 k), .lit (.string nm), .sl (atmR ats') .no, .sl (prmR ps') .no, .sl (tyR rs') .no, .sl (expR bd') .no, .sl (trmR ts') .no] 52)).set (P + 2) (.cells [.lit (.int .u8 k), .lit (.string nm), .sl (atmR ats') .no, .sl (prmR ps') .no, .sl (tyR rs') .no, .sl (expR bd') .no, .sl (trmR ts') .no] 52))[P + 2]? = some (.cells [.lit (.int .u8 k), .lit (.string nm), .sl (atmR ats') .no, .sl (prmR ps') .no, .sl (tyR rs') .no, .sl (expR bd') .no, .sl (trmR ts') .no] 52) := List.getElem?_set_self (by simp; omega)
 refine JD.ret (hR0 _ _ _ ⟨.agg [.lit (.int .u8 k), .lit (.string nm), .sl (atmR ats') .no, .sl (prmR ps') .no, .sl (tyR rs') .no, .sl (expR bd') .no, .sl (trmR ts') .no], by simp [zA, omap, zC, zX, r4], rfl, hS2, ?_⟩)
 exact hFac.trans (hF1.trans0 hF2') fun p hp => .inr (by omega)
end
section
open Go.RowKit
variable {S : Sp} {N : Nat}
def prG (u : List ByteArray) (n : ByteArray) : (ByteArray × ByteArray) × List ByteArray := ((n, freshB u n), u ++ [freshB u n])
def prs (u : List ByteArray) : List ByteArray → Bnd × List ByteArray
 | [] => ([], u)
 | x :: l => ((prG u x).1 :: (prs (prG u x).2 l).1, (prs (prG u x).2 l).2)
theorem prs_app : ∀ (a b : List ByteArray) (u : List ByteArray), prs u (a ++ b) = ((prs u a).1 ++ (prs (prs u a).2 b).1, (prs (prs u a).2 b).2)
 | [], b, u => rfl
 | x :: a, b, u => by rw [List.cons_append, prs, prs_app a b]; rfl
theorem prs_take (u : List ByteArray) {a : List ByteArray} {i : Nat} (h : i < a.length) : prs u (a.take (i + 1)) = ((prs u (a.take i)).1 ++ [(a[i], freshB (prs u (a.take i)).2 a[i])], (prs u (a.take i)).2 ++ [freshB (prs u (a.take i)).2 a[i]]) := by
 rw [List.take_succ_eq_append_getElem h, prs_app]; rfl
theorem prs_len : ∀ (a : List ByteArray) (u : List ByteArray), (prs u a).1.length = a.length ∧ (prs u a).2.length = u.length + a.length
 | [], u => ⟨rfl, rfl⟩
 | x :: a, u => by
  obtain ⟨h1, h2⟩ := prs_len a (prG u x).2
  rw [prs]
  exact ⟨by simp [h1], by rw [h2]; simp [prG]; omega⟩
theorem renNs_f : ∀ (ns : List ByteArray) (l : Bnd) (u : List ByteArray), renNs NFp l u ns = ((prs u ns).1.map (·.2), (prs u ns).1.reverse ++ l, (prs u ns).2)
 | [], l, u => by rw [renNs]; rfl
 | n :: ns, l, u => by
  rw [renNs, renNs_f ns]
  simp only [prs, prG, List.map_cons, List.reverse_cons, List.append_assoc, List.singleton_append]
  rfl
theorem TokS.ne {σ : Sto} {m : Nat} {e : TypeId} {tok : Tok} (h : TokS σ m e tok) {p : Nat} {o : AObj} (ho : σ[p]? = some o) (hn : ∀ m, o ≠ .tok m e) : tok ≠ .own p := fun e1 => by
 rcases h with ⟨g, _⟩ | ⟨i, g1, g2⟩
 · rw [g] at e1; cases e1
 · rw [g1] at e1
   cases e1
   rw [g2] at ho
   cases ho
   exact hn _ rfl
theorem prR_app (a b : Bnd) : prR (a ++ b) = prR a ++ prR b := List.map_append
theorem prR_len (a : Bnd) : (prR a).length = a.length := List.length_map _
theorem prR_hd (l : Bnd) : (prR l).head?.all (·.length == 2) = true := by cases l <;> rfl
theorem armC_j (H : RnH S) (c0 c1 x0 x1 x2 : AV) (bd : List Exp) (he : ∀ x ∈ bd, OneJ S N 33 Exp.cs (renE NFp) bE x) (q : RQ) (u : List ByteArray) (st : ByteArray → List ByteArray) (l : Bnd) (P : Nat) (σ : Sto) (h : St q u st σ) (hl : Top l st) (hu : u.length + (bEs bd).length ≤ 1000000000) (hb : ∀ s ∈ bEs bd, s.size ≤ 1000000000) (hlen : bd.length ≤ 1000000000)
    (g0 : σ[P]? = some (.cells [.ptr q.rid 0] 93)) (g1 : σ[P + 1]? = some (.cells [c0, c1, .sl (expR bd) .no] 56)) (g3 : σ[P + 3]? = some (.cells [x0, x1, x2] 56)) (hno : ¬ Own q σ (P + 3)) :
    JC Tryz.prog (S.E N) 99 [.ptr (P + 1) 0, .ptr P 0, .ptr (P + 3) 0] σ fun r σ' => r = .ret (.tup []) ∧ St q (renEs NFp l u bd).2 st σ' ∧ Fr q (fun p => p = P + 3) σ σ' ∧ σ'[P + 3]? = some (.cells [x0, x1, .sl (expR (renEs NFp l u bd).1) .no] 56) := by
 refine JC.startG (fn := Tryz.f99) (codeOf H.code Tryz.func99 rfl (by kernel_rfl)) rfl H.ar1 rfl (zL rfl) fun tm => ?_
 refine JD.hide fun R0 hR0 => JD.region ?_
 simp (maxDischargeDepth := 16) [zY, symL, g0, g1]
 refine (eachE_j H.code H.ee q u st l bd .no σ h hl hu hb hlen he).mono ?_
 rintro r σ1 ⟨rfl, hS1, hF1⟩
 have b3 := hF1.get hno (fun x => x) g3
 have n3 := hF1.not hno (List.getElem?_eq_some_iff.1 g3).1
 have hl1 := (List.getElem?_eq_some_iff.1 b3).1
 simp (maxDischargeDepth := 16) [zY, symL, b3]
 exact hR0 _ _ _ ⟨.tup [], by simp [zA, omap], rfl, hS1.set n3 _, hF1.none.trans0 (hS1.frS (V := fun p => p = P + 3) n3 (.inl rfl) _), List.getElem?_set_self hl1⟩
theorem arm_j (H : RnH S) (cn : ByteArray) (ns : List ByteArray) (bd : List Exp) (hn : (Arm.mk cn ns bd).n ≤ 1000000000) (hN : 16 * (Arm.mk cn ns bd).n + 4 < N) (he : ∀ x ∈ bd, OneJ S N 33 Exp.cs (renE NFp) bE x) :
    OneJ S N 67 Arm.cs (renM NFp) bM (.mk cn ns bd) := by
 intro q u st l σ h hl hu hb
 refine J.callNrm (R := fun r σ' => (∃ tok, r = .ret (.agg [.lit (.string cn), .sl (txtR (renNs NFp l u ns).1) tok, .sl (expR (renEs NFp (renNs NFp l u ns).2.1 (renNs NFp l u ns).2.2 bd).1) .no])) ∧ St q (renEs NFp (renNs NFp l u ns).2.1 (renNs NFp l u ns).2.2 bd).2 st σ' ∧ Fr q nV σ σ') ?_ (fun v σ' h => ?_) (fun v σ' h => by obtain ⟨⟨tok, e⟩, _⟩ := h; cases e)
 rotate_left
 · obtain ⟨⟨tok, e⟩, h2⟩ := h
   cases e
   rw [renM]
   exact ⟨by simp only [AV.nrm, nrmR, txtR_nrm, expR_nrm, Arm.cs], h2⟩
 simp only [nrmR, AV.nrm, Arm.nrm]
 simp only [Arm.n] at hn hN
 have hbb : bM (.mk cn ns bd) = ns ++ bEs bd := by rw [bM]
 rw [hbb] at hu hb
 simp only [List.length_append] at hu
 have an1 := (anew_Ns (F := NFp) l u ns).len
 have an3 := (anew_Es (F := NFp) (renNs NFp l u ns).2.1 (renNs NFp l u ns).2.2 bd).len
 rw [renNs_f] at an1 an3 ⊢
 dsimp only at an1 an3 ⊢
 have hlb := expN_len bd
 refine JC.startG (fn := Tryz.f67) (codeOf H.code Tryz.func67 rfl (by kernel_rfl)) rfl H.ar rfl (zL rfl) fun tm => ?_
 refine JD.hide fun R0 hR0 => ?_
 simp only [Arm.cs]
 refine JD.seqK fun K hK => J.cw (CW.region ?_)
 simp (maxDischargeDepth := 16) [zY]
 refine hK _ _ ?_; clear hK K
 refine JD.seqK fun K hK => J.cw (CW.region ?_)
 simp (maxDischargeDepth := 16) [zY]
 refine hK _ _ ?_; clear hK K
 refine JD.seqK fun K hK => J.cw (CW.region ?_)
 simp (maxDischargeDepth := 16) [zY]
 refine hK _ _ ?_; clear hK K
 obtain ⟨g0, g1, g2, g3, hla⟩ := box4 σ (.cells [.ptr q.rid 0] 93) (.cells [.lit (.string cn), .sl (txtR ns) .no, .sl (expR bd) .no] 56) (.cells [.lit (.string ⟨#[]⟩), .sl [] .full, .sl [] .full] 56) (.cells [.lit (.string cn), .sl [] .full, .sl [] .full] 56)
 have hSa := h.app [.cells [.ptr q.rid 0] 93, .cells [.lit (.string cn), .sl (txtR ns) .no, .sl (expR bd) .no] 56, .cells [.lit (.string ⟨#[]⟩), .sl [] .full, .sl [] .full] 56, .cells [.lit (.string cn), .sl [] .full, .sl [] .full] 56]
 have hFa := h.frA nV [.cells [.ptr q.rid 0] 93, .cells [.lit (.string cn), .sl (txtR ns) .no, .sl (expR bd) .no] 56, .cells [.lit (.string ⟨#[]⟩), .sl [] .full, .sl [] .full] 56, .cells [.lit (.string cn), .sl [] .full, .sl [] .full] 56]
 have hno := fun p hp => h.newA [.cells [.ptr q.rid 0] 93, .cells [.lit (.string cn), .sl (txtR ns) .no, .sl (expR bd) .no] 56, .cells [.lit (.string ⟨#[]⟩), .sl [] .full, .sl [] .full] 56, .cells [.lit (.string cn), .sl [] .full, .sl [] .full] 56] (p := p) hp
 generalize hP : σ.length = P at *
 generalize σ ++ [_, _, _, _] = σa at *
 refine JD.keep [2, 3, 4, 5, 6] fun tm => ?_
 simp only [sel, List.contains_cons, List.contains_nil, Bool.or_false, Nat.reduceBEq, Bool.false_eq_true, if_false, if_true, Bool.or_true, Bool.true_or]
 refine JD.seqK fun KL hKL => ?_
 refine JD.seqK fun K hK => J.cw (CW.region ?_)
 simp (maxDischargeDepth := 16) [zY, g1]
 refine hK _ _ ?_; clear hK K
 refine JD.block (JD.hide fun R1 hR1 => ?_)
 refine JD.loopF (fun p : Nat × Tok × Tok × Sto => [(2, .ptr P 0), (3, .ptr (P + 1) 0), (4, .ptr (P + 2) 0), (5, .ptr (P + 3) 0), (6, .sl (prR (prs u (ns.take p.1)).1) p.2.1), (14, .sl (txtR ns) .no), (15, intV ns.length), (16, intV p.1)]) (fun p => p.2.2.2)
  (fun p => p.1 ≤ ns.length ∧ St q (prs u (ns.take p.1)).2 st p.2.2.2 ∧ Fr q nV σ p.2.2.2 ∧ Grow q σ p.2.2.2 (p.1 * 2) 141 p.2.1 ∧ Grow q σ p.2.2.2 p.1 9 p.2.2.1 ∧ (∀ j, P ≤ j → j < P + 3 → p.2.2.2[j]? = σa[j]?) ∧ p.2.2.2[P + 3]? = some (.cells [.lit (.string cn), .sl (txtR ((prs u (ns.take p.1)).1.map (·.2))) p.2.2.1, .sl [] .full] 56) ∧ ∀ j, P ≤ j → j < P + 4 → ¬ Own q p.2.2.2 j)
  (fun p => ns.length - p.1) (0, .full, .full, σa) (by simp [sub, lk, prs, prR, txtR]) rfl ⟨by simp, by simpa [prs] using hSa, hFa, by simpa using Grow.nil q σ σa _, Grow.nil q σ σa _, fun j _ _ => rfl, by simpa [prs, txtR] using g3, fun j h1 _ => hno j h1⟩ ?_
 rintro ⟨i, tok1, tok2, σ1⟩ tm ⟨hi, hS1, hF1, hG1, hG2, hK1, hx3, hn1⟩ R2 hR2 hR2x
 dsimp only at hi hS1 hF1 hG1 hG2 hK1 hx3 hn1 hR2 ⊢
 refine JD.seqK fun K4 hK4 => J.cw (CW.region ?_)
 rcases Nat.lt_or_ge i ns.length with hlt | hge
 · have ha := txtR_get hlt
   have hft := prs_take u hlt
   obtain ⟨hp1, hp2⟩ := prs_len (ns.take i) u
   rw [List.length_take_of_le hi] at hp1 hp2
   have hnm : (ns[i]).size ≤ 1000000000 := hb _ (by simp)
   have d0 := (hK1 P (by omega) (by omega)).trans g0
   simp (maxDischargeDepth := 16) [zY, hlt]
   refine hK4 _ _ ?_
   refine JD.seqK fun K3 hK3 => ?_
   refine JD.cond (t := true) (by simp [zT, zF, lk]) ?_
   refine JD.skip (hK3 _ _ ?_)
   refine JD.seqK fun K5 hK5 => JD.block ?_
   refine JD.seqK fun K hK => J.cw (CW.region ?_)
   simp (maxDischargeDepth := 16) [zY, ha]
   refine hK _ _ ?_; clear hK K
   generalize ns[i] = n at *
   generalize hui : (prs u (ns.take i)).2 = ui at *
   generalize hpi : (prs u (ns.take i)).1 = pi at *
   have hfc := fresh_c (N := N) H.toFrH hS1 n (by omega) hnm (by omega)
   generalize freshB ui n = f at *
   refine JD.seqK fun K hK => JD.region ?_
   simp (maxDischargeDepth := 16) [zY, symL, d0]
   refine hfc.toJ.mono ?_
   rintro r σ2 ⟨rfl, hS2, hF2⟩
   simp (maxDischargeDepth := 16) [zY, symL, set_last]
   refine hK _ _ ?_; clear hK K
   have hl2 := hF2.len
   have hl1 := hF1.len
   have hS3 := hS2.app [.cells [.lit (.string n), .lit (.string f)] 141]
   have hF3 := hF2.trans0 (hS2.frA nV [.cells [.lit (.string n), .lit (.string f)] 141])
   have gx : (σ2 ++ [.cells [.lit (.string n), .lit (.string f)] 141])[σ2.length]? = some (.cells [.lit (.string n), .lit (.string f)] 141) := by simp
   have hlx : (σ2 ++ [AObj.cells [.lit (.string n), .lit (.string f)] 141]).length = σ2.length + 1 := by simp
   generalize hx : σ2.length = x at *
   generalize σ2 ++ [AObj.cells [.lit (.string n), .lit (.string f)] 141] = σ3 at *
   have hx31 := (List.getElem?_eq_some_iff.1 hx3).1
   have k3 : ∀ j, P ≤ j → j < P + 3 → σ3[j]? = σa[j]? := fun j h1 h2 => (hF3.keep j (by omega) (hn1 j h1 (by omega)) (fun x => x)).trans (hK1 j h1 h2)
   have e3 := hF3.get (hn1 (P + 3) (by omega) (by omega)) (fun x => x) hx3
   have n3 : ∀ j, P ≤ j → j < P + 4 → ¬ Own q σ3 j := fun j h1 h2 => hF3.not (hn1 j h1 h2) (by omega)
   have hG3 := hG1.keep hF3 fun p h => h.elim
   have hH3 := hG2.keep hF3 fun p h => h.elim
   obtain ⟨tok1', σ4, acc, t1, t2, t3, t4, hap⟩ := app_own (P := Tryz.prog) (M := []) (σ := σ3) (t := 143) (e := 141) (k := 1) (by_ := 32) (es := prR pi) (fs := [[.lit (.string n), .lit (.string f)]]) (by kernel_rfl) (by kernel_rfl) (by kernel_rfl) (by kernel_rfl) (by rw [prR_len, hp1]; exact hG3.t) (prR_hd _) (by simp) (by simp only [prR_len, hp1, List.length_singleton]; omega) (by simp only [prR_len, hp1, List.length_singleton]; omega)
   obtain ⟨u1, u2, u3⟩ := hG3.next hS3 (by omega) t1 t2 t3 t4
   rw [prR_len, hp1, List.length_singleton] at u1
   rw [show prR pi ++ stripRows [[.lit (.string n), .lit (.string f)]] = prR (pi ++ [(n, f)]) by rw [prR_app]; rfl] at hap
   have k4 : ∀ j, P ≤ j → j < P + 3 → σ4[j]? = σa[j]? := fun j h1 h2 => by
    have hj := k3 j h1 h2
    rw [t3 j (by omega) ?_]
    · exact hj
    · have : ∃ cs T, σa[j]? = some (.cells cs T) := by
       rcases (show j = P ∨ j = P + 1 ∨ j = P + 2 by omega) with rfl | rfl | rfl
       · exact ⟨_, _, g0⟩
       · exact ⟨_, _, g1⟩
       · exact ⟨_, _, g2⟩
      obtain ⟨cs, T, hc⟩ := this
      exact hG3.t.ne (hj.trans hc) fun m e => by cases e
   have e4 : σ4[P + 3]? = some (.cells [.lit (.string cn), .sl (txtR (pi.map (·.2))) tok2, .sl [] .full] 56) := by rw [t3 (P + 3) (by omega) (hG3.t.ne e3 fun m e => by cases e)]; exact e3
   have x4 : σ4[x]? = some (.cells [.lit (.string n), .lit (.string f)] 141) := by rw [t3 x (by omega) (hG3.t.ne gx fun m e => by cases e)]; exact gx
   have hH4 := hH3.keep u3 fun p hp e => by
    rcases hG3.t with ⟨g, _⟩ | ⟨j, j1, j2⟩
    · rw [g] at hp; cases hp
    · rw [j1] at hp; cases hp
      exact hH3.t.ne j2 (fun m e => by injection e with e1 e2; exact absurd e2 (by decide)) e
   have n4 : ∀ j, P ≤ j → j < P + 4 → ¬ Own q σ4 j := fun j h1 h2 => u3.not (n3 j h1 h2) (by omega)
   refine JD.seqK fun K hK => J.cw (CW.region ?_)
   simp (maxDischargeDepth := 16) [zY, gx, hap]
   refine hK _ _ ?_; clear hK K hap
   obtain ⟨tok2', σ5, acc2, v1, v2, v3, v4, hap⟩ := app_own (P := Tryz.prog) (M := []) (σ := σ4) (t := 23) (e := 9) (k := 0) (by_ := 16) (es := txtR (pi.map (·.2))) (fs := [[.lit (.string f)]]) (by kernel_rfl) (by kernel_rfl) (by kernel_rfl) (by kernel_rfl) (by rw [txtR_len, List.length_map, hp1]; simpa using hH4.t) (txtR_hd _) (by simp) (by simp only [txtR_len, List.length_map, hp1, List.length_singleton]; omega) (by simp only [txtR_len, List.length_map, hp1, List.length_singleton]; omega)
   obtain ⟨w1, w2, w3⟩ := hH4.next u2 (by omega) v1 v2 v3 v4
   rw [txtR_len, List.length_map, hp1, List.length_singleton] at w1
   rw [show txtR (pi.map (·.2)) ++ stripRows [[.lit (.string f)]] = txtR ((pi ++ [(n, f)]).map (·.2)) by rw [List.map_append, txtR_app]; rfl] at hap
   have e5 : σ5[P + 3]? = some (.cells [.lit (.string cn), .sl (txtR (pi.map (·.2))) tok2, .sl [] .full] 56) := by rw [v3 (P + 3) (by omega) (hH4.t.ne e4 fun m e => by cases e)]; exact e4
   have hl5 := (List.getElem?_eq_some_iff.1 e5).1
   have k5 : ∀ j, P ≤ j → j < P + 3 → σ5[j]? = σa[j]? := fun j h1 h2 => by
    have hj := k4 j h1 h2
    rw [v3 j (by omega) ?_]
    · exact hj
    · have : ∃ cs T, σa[j]? = some (.cells cs T) := by
       rcases (show j = P ∨ j = P + 1 ∨ j = P + 2 by omega) with rfl | rfl | rfl
       · exact ⟨_, _, g0⟩
       · exact ⟨_, _, g1⟩
       · exact ⟨_, _, g2⟩
      obtain ⟨cs, T, hc⟩ := this
      exact hH4.t.ne (hj.trans hc) fun m e => by cases e
   have n5 : ∀ j, P ≤ j → j < P + 4 → ¬ Own q σ5 j := fun j h1 h2 => w3.not (n4 j h1 h2) (by omega)
   have hG5 := u1.keep w3 fun p hp e => by
    rcases hH4.t with ⟨g, _⟩ | ⟨j, j1, j2⟩
    · rw [g] at hp; cases hp
    · rw [j1] at hp; cases hp
      exact u1.t.ne j2 (fun m e => by injection e with e1 e2; exact absurd e2 (by decide)) e
   refine J.cw (CW.region ?_)
   simp (maxDischargeDepth := 16) [zY, e4, x4, hap, e5]
   refine hK5 _ _ ?_
   refine J.cw (CW.region ?_)
   simp (maxDischargeDepth := 16) [zY, wrap_succ (show i ≤ 1000000000000 by omega)]
   have hm2 : (pi ++ [(n, f)]).map (·.2) = pi.map (·.2) ++ [f] := by simp
   have hF6 := w2.frS (V := fun p => p = P + 3) (n5 (P + 3) (by omega) (by omega)) (.inl rfl) (.cells [.lit (.string cn), .sl (txtR (pi.map (·.2) ++ [f])) tok2', .sl [] .full] 56)
   refine hR2 _ _ ⟨(i + 1, tok1', tok2', σ5.set (P + 3) (.cells [.lit (.string cn), .sl (txtR (pi.map (·.2) ++ [f])) tok2', .sl [] .full] 56)), _, _, rfl, ?_, rfl, ⟨hlt, ?_, ?_, ?_, ?_, fun j h1 h2 => ?_, ?_, fun j h1 h2 => hF6.not (n5 j h1 h2) (by omega)⟩, show ns.length - (i + 1) < ns.length - i by omega⟩
   · simp only [hft]
     simp [sub, lk]
   · show St q (prs u (ns.take (i + 1))).2 st _
     rw [hft]
     exact w2.set (n5 (P + 3) (by omega) (by omega)) _
   · exact (((hF1.trans0 hF3).trans u3 fun p hp => .inr (by have := (hG3.o p hp).2; omega)).trans w3 fun p hp => .inr (by have := (hH4.o p hp).2; omega)).trans hF6 fun p hp => .inr (by omega)
   · exact (by simpa using hG5 : Grow q σ σ5 ((i + 1) * 2) 141 tok1').keep hF6 fun p hp => by subst hp; exact hG5.t.ne e5 fun m e => by cases e
   · exact (by simpa using w1 : Grow q σ σ5 (i + 1) 9 tok2').keep hF6 fun p hp => by subst hp; exact w1.t.ne e5 fun m e => by cases e
   · show (σ5.set (P + 3) _)[j]? = _
     rw [List.getElem?_set_ne (by omega)]; exact k5 j h1 h2
   · show (σ5.set (P + 3) _)[P + 3]? = _
     rw [List.getElem?_set_self hl5, hft, hm2]
 · simp (maxDischargeDepth := 16) [zY, Nat.not_lt.2 hge]
   refine hK4 _ _ ?_
   refine JD.seqK fun K3 hK3 => ?_
   refine JD.cond (t := false) (by simp [zT, zF, lk]) ?_
   refine JD.exit (hR2x _ _ _ (by simp) (hR1 _ _ _ ?_))
   simp only [outOf, if_true]
   refine hKL _ _ ?_
   rw [List.take_of_length_le hge] at *
   have d0 := (hK1 P (by omega) (by omega)).trans g0
   have d1 := (hK1 (P + 1) (by omega) (by omega)).trans g1
   have d2 := (hK1 (P + 2) (by omega) (by omega)).trans g2
   have hl3 := (List.getElem?_eq_some_iff.1 hx3).1
   obtain ⟨hp1, hp2⟩ := prs_len ns u
   refine JD.seqK fun K hK => JD.region ?_
   simp (maxDischargeDepth := 16) [zY, symL, d0]
   refine (within_j (N := N) H.code H.wis H.wib H.wi q (prs u ns).2 (renEs NFp ((prs u ns).1.reverse ++ l) (prs u ns).2 bd).2 st (prs u ns).1 tok1 99 [.ptr (P + 1) 0, .ptr P 0, .ptr (P + 3) 0] (fun p => p = P + 3) (fun σ' => σ'[P + 3]? = some (.cells [.lit (.string cn), .sl (txtR ((prs u ns).1.map (·.2))) tok2, .sl (expR (renEs NFp ((prs u ns).1.reverse ++ l) (prs u ns).2 bd).1) .no] 56)) σ1 hS1 (by omega) (by omega) (by omega) (fun s => by have := h.h s; omega) (fun σ2 hS2 hF2 => ?_)).mono ?_
   · exact armC_j H _ _ _ _ _ bd he q _ _ _ P σ2 hS2 (hl.push _) (by omega) (fun s hs => hb s (by simp [hs])) (by omega) (hF2.get (hn1 P (by omega) (by omega)) (fun x => x) d0) (hF2.get (hn1 (P + 1) (by omega) (by omega)) (fun x => x) d1) (hF2.get (hn1 (P + 3) (by omega) (by omega)) (fun x => x) hx3) (hF2.not (hn1 (P + 3) (by omega) (by omega)) (by omega))
   rintro r σe ⟨rfl, hSe, hFe, σ2, hR, hS2, hF2, hF3⟩
   generalize (renEs NFp ((prs u ns).1.reverse ++ l) (prs u ns).2 bd).1 = bd' at *
   generalize (renEs NFp ((prs u ns).1.reverse ++ l) (prs u ns).2 bd).2 = ub at *
   have e3 := hF2.get (hF3.not (hn1 (P + 3) (by omega) (by omega)) (by omega)) (fun x => x) hR
   have e2 := hFe.get (hn1 (P + 2) (by omega) (by omega)) (fun v => by omega) d2
   have n2 := hFe.not (hn1 (P + 2) (by omega) (by omega)) (by omega)
   have hel := (List.getElem?_eq_some_iff.1 e2).1
   simp (maxDischargeDepth := 16) [zY, symL]
   refine hK _ _ ?_; clear hK K
   refine JD.seqK fun K hK => J.cw (CW.region ?_)
   simp (maxDischargeDepth := 16) [zY, e3, e2]
   refine hK _ _ ?_; clear hK K
   generalize hCE : AObj.cells [.lit (.string cn), .sl (txtR ((prs u ns).1.map (·.2))) tok2, .sl (expR bd') .no] 56 = CE at *
   have r2 : (σe.set (P + 2) CE)[P + 2]? = some CE := List.getElem?_set_self hel
   rw [← hCE] at r2 ⊢
   refine JD.ret (hR0 _ _ _ ⟨.agg [.lit (.string cn), .sl (txtR ((prs u ns).1.map (·.2))) tok2, .sl (expR bd') .no], by simp [zA, omap, zC, zX, r2], ⟨tok2, rfl⟩, hSe.set n2 _, ?_⟩)
   exact (hF1.trans hFe fun p hp => .inr (by omega)).trans (hSe.frS (V := fun p => p = P + 2) n2 (.inl rfl) _) fun p hp => .inr (by omega)
end
end Go.Proofs.YteajcnilihgheaaGreatDoor
