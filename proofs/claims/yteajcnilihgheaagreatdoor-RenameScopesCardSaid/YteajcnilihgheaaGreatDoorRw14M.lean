/-
 EV: the package rename: expr: an expression.
-/
import Derived.Test.YteajcnilihgheaaGreatDoorRw12M
import Derived.Test.YteajcnilihgheaaGreatDoorEvSimM
namespace Go.Proofs.YteajcnilihgheaaGreatDoor
set_option maxRecDepth 100000
set_option maxHeartbeats 8000000
set_option linter.unusedSimpArgs false
set_option linter.unusedVariables false
section
open Go.RowKit
variable {S : Sp} {N : Nat}
theorem exprC_j (H : RnH S) (y0 y1 y2 y3 y4 y5 y6 y7 y8 y9 : AV) (x0 x1 x2 x3 x4 x5 x6 x7 x8 x9 x10 : AV) (bd : List Exp) (he : ∀ x ∈ bd, OneJ S N 33 Exp.cs (renE NFp) bE x) (q : RQ) (u : List ByteArray) (st : ByteArray → List ByteArray) (l : Bnd) (P : Nat) (σ : Sto) (h : St q u st σ) (hl : Top l st) (hu : u.length + (bEs bd).length ≤ 1000000000) (hb : ∀ s ∈ bEs bd, s.size ≤ 1000000000) (hlen : bd.length ≤ 1000000000)
    (g0 : σ[P]? = some (.cells [.ptr q.rid 0] 93)) (g1 : σ[P + 1]? = some (.cells [y0, y1, y2, y3, y4, y5, y6, y7, y8, y9, .sl (expR bd) .no] 49)) (g3 : σ[P + 3]? = some (.cells [x0, x1, x2, x3, x4, x5, x6, x7, x8, x9, x10] 49)) (hno : ¬ Own q σ (P + 3)) :
    JC Tryz.prog (S.E N) 64 [.ptr (P + 1) 0, .ptr P 0, .ptr (P + 3) 0] σ fun r σ' => r = .ret (.tup []) ∧ St q (renEs NFp l u bd).2 st σ' ∧ Fr q (fun p => p = P + 3) σ σ' ∧ σ'[P + 3]? = some (.cells [x0, x1, x2, x3, x4, x5, x6, x7, x8, x9, .sl (expR (renEs NFp l u bd).1) .no] 49) := by
 refine JC.startG (fn := Tryz.f64) (codeOf H.code Tryz.func64 rfl (by kernel_rfl)) rfl H.ex1 rfl (zL rfl) fun tm => ?_
 refine JD.hide fun R0 hR0 => JD.region ?_
 simp (maxDischargeDepth := 16) [zY, symL, g0, g1]
 refine (eachE_j H.code H.ee q u st l bd .no σ h hl hu hb hlen he).mono ?_
 rintro r σ1 ⟨rfl, hS1, hF1⟩
 have b3 := hF1.get hno (fun x => x) g3
 have n3 := hF1.not hno (List.getElem?_eq_some_iff.1 g3).1
 have hl1 := (List.getElem?_eq_some_iff.1 b3).1
 simp (maxDischargeDepth := 16) [zY, symL, b3]
 exact hR0 _ _ _ ⟨.tup [], by simp [zA, omap], rfl, hS1.set n3 _, hF1.none.trans0 (hS1.frS (V := fun p => p = P + 3) n3 (.inl rfl) _), List.getElem?_set_self hl1⟩
theorem expr_s (H : RnH S) (k : Int) (nm : ByteArray) (ty : List Ty) (rh : List Rhs) (amk : Int) (amnm : ByteArray) (amng : Bool) (amdg : List Int) (amtr : Bool) (ar : List Arm) (bd : List Exp) (hn : (Exp.mk k nm ty rh (.mk amk amnm amng amdg amtr) ar bd).n ≤ 1000000000) (hN : 16 * (Exp.mk k nm ty rh (.mk amk amnm amng amdg amtr) ar bd).n + 4 < N)
    (hr : ∀ x ∈ rh, OneJ S N 63 Rhs.cs (renR NFp) bR x) (hm : ∀ x ∈ ar, OneJ S N 67 Arm.cs (renM NFp) bM x) (he : ∀ x ∈ bd, OneJ S N 33 Exp.cs (renE NFp) bE x) :
    OneJ S N 33 Exp.cs (renE NFp) bE (.mk k nm ty rh (.mk amk amnm amng amdg amtr) ar bd) := by
 intro q u st l σ h hl hu hb
 refine J.callNrm (R := fun r σ' => r = .ret (.agg (renE NFp l u (.mk k nm ty rh (.mk amk amnm amng amdg amtr) ar bd)).1.cs) ∧ St q (renE NFp l u (.mk k nm ty rh (.mk amk amnm amng amdg amtr) ar bd)).2 st σ' ∧ Fr q nV σ σ') ?_ (fun v σ' h => ?_) (fun v σ' h => by cases h.1)
 rotate_left
 · obtain ⟨e, h2⟩ := h
   cases e
   exact ⟨by simp only [AV.nrm, Exp.nrm], h2⟩
 simp only [nrmR, AV.nrm, Exp.nrm]
 simp only [Exp.n] at hn hN
 have hbb : bE (.mk k nm ty rh (.mk amk amnm amng amdg amtr) ar bd) = (if k = 1 then [nm] else []) ++ bYs ty ++ bRs rh ++ bEs bd ++ bMs ar := by rw [bE]
 rw [hbb] at hu hb
 simp only [List.length_append] at hu
 have hlt := tyN_len ty
 have hlr := rhsN_len rh
 have hla0 := armN_len ar
 have hlb := expN_len bd
 have hun : u.length ≤ 1000000000 := by omega
 refine JC.startG (fn := Tryz.f33) (codeOf H.code Tryz.func33 rfl (by kernel_rfl)) rfl H.ex rfl (zL rfl) fun tm => ?_
 refine JD.hide fun R0 hR0 => ?_
 have hatm := fun (σ : Sto) (hA : (⟨q.rid, l⟩ : RS).At σ) (Q : ARes → Sto → Prop) (args : List AV) => call_ratom (P := Tryz.prog) (N := N) (σ := σ) (Q := Q) (args := args) ⟨q.rid, l⟩ (.mk amk amnm amng amdg amtr) H.am
 -- how all is told
 have ef : ∀ (nm' : ByteArray) (l1 : Bnd) (u1 : List ByteArray), letN NFp l u k nm = (nm', l1, u1) → renE NFp l u (.mk k nm ty rh (.mk amk amnm amng amdg amtr) ar bd) = (.mk k nm' (renYs NFp l u1 ty).1 (renRs NFp l (renYs NFp l u1 ty).2 rh).1 (renA l (.mk amk amnm amng amdg amtr)) (renMs NFp l (renEs NFp l1 (renRs NFp l (renYs NFp l u1 ty).2 rh).2 bd).2 ar).1 (renEs NFp l1 (renRs NFp l (renYs NFp l u1 ty).2 rh).2 bd).1, (renMs NFp l (renEs NFp l1 (renRs NFp l (renYs NFp l u1 ty).2 rh).2 bd).2 ar).2) := fun nm' l1 u1 e => by rw [renE]; simp only [e]
 generalize renA l (.mk amk amnm amng amdg amtr) = am' at *
 obtain ⟨amk', amnm', amng', amdg', amtr'⟩ := am'
 simp only [Exp.cs, Atm.cs] at hatm ⊢
 refine JD.seqK fun K hK => J.cw (CW.region ?_)
 simp (maxDischargeDepth := 16) [zY]
 refine hK _ _ ?_; clear hK K
 obtain ⟨g0, g1, g2, hla⟩ := box3 σ (.cells [.ptr q.rid 0] 93) (.cells [.lit (.int .u8 k), .lit (.string nm), .sl (tyR ty) .no, .sl (rhsR rh) .no, .lit (.int .u8 amk), .lit (.string amnm), .lit (.bool amng), .sl (limR amdg) .no, .lit (.bool amtr), .sl (armR ar) .no, .sl (expR bd) .no] 49) (.cells [.lit (.int .u8 0), .lit (.string ⟨#[]⟩), .sl [] .full, .sl [] .full, .lit (.int .u8 0), .lit (.string ⟨#[]⟩), .lit (.bool false), .sl [] .full, .lit (.bool false), .sl [] .full, .sl [] .full] 49)
 have hSa := h.app [.cells [.ptr q.rid 0] 93, .cells [.lit (.int .u8 k), .lit (.string nm), .sl (tyR ty) .no, .sl (rhsR rh) .no, .lit (.int .u8 amk), .lit (.string amnm), .lit (.bool amng), .sl (limR amdg) .no, .lit (.bool amtr), .sl (armR ar) .no, .sl (expR bd) .no] 49, .cells [.lit (.int .u8 0), .lit (.string ⟨#[]⟩), .sl [] .full, .sl [] .full, .lit (.int .u8 0), .lit (.string ⟨#[]⟩), .lit (.bool false), .sl [] .full, .lit (.bool false), .sl [] .full, .sl [] .full] 49]
 have hFa := h.frA nV [.cells [.ptr q.rid 0] 93, .cells [.lit (.int .u8 k), .lit (.string nm), .sl (tyR ty) .no, .sl (rhsR rh) .no, .lit (.int .u8 amk), .lit (.string amnm), .lit (.bool amng), .sl (limR amdg) .no, .lit (.bool amtr), .sl (armR ar) .no, .sl (expR bd) .no] 49, .cells [.lit (.int .u8 0), .lit (.string ⟨#[]⟩), .sl [] .full, .sl [] .full, .lit (.int .u8 0), .lit (.string ⟨#[]⟩), .lit (.bool false), .sl [] .full, .lit (.bool false), .sl [] .full, .sl [] .full] 49]
 have hno := fun p hp => h.newA [.cells [.ptr q.rid 0] 93, .cells [.lit (.int .u8 k), .lit (.string nm), .sl (tyR ty) .no, .sl (rhsR rh) .no, .lit (.int .u8 amk), .lit (.string amnm), .lit (.bool amng), .sl (limR amdg) .no, .lit (.bool amtr), .sl (armR ar) .no, .sl (expR bd) .no] 49, .cells [.lit (.int .u8 0), .lit (.string ⟨#[]⟩), .sl [] .full, .sl [] .full, .lit (.int .u8 0), .lit (.string ⟨#[]⟩), .lit (.bool false), .sl [] .full, .lit (.bool false), .sl [] .full, .sl [] .full] 49] (p := p) hp
 generalize hP : σ.length = P at *
 generalize σ ++ [_, _, _] = σa at *
 refine JD.keep [2, 3, 4] fun tm => ?_
 simp only [sel, List.contains_cons, List.contains_nil, Bool.or_false, Nat.reduceBEq, Bool.false_eq_true, if_false, if_true, Bool.or_true, Bool.true_or]
 have hRA := hSa.rs hl hun
 refine JD.seqK fun K hK => J.cw (CW.draw (by kernel_rfl) ?_)
 simp (maxDischargeDepth := 16) [zY, g0, g1]
 refine hatm _ hRA _ _ (by simp only [nrmR, AV.nrm, limR_nrm]) hRA (by simp only [Atm.n]; omega) (by simp only [Atm.n]; omega) fun hac => ?_
 simp (maxDischargeDepth := 16) [zY, g0, g1, hac]
 simp only [hla]
 refine ⟨drawOk_sim [P, (P + 1), (P + 3)] [.pure, .reads 1, .pure, .reads 1, .reads 0, .pure, .reads 1, .lcalls (fun _ => true), .pure, .news 2, .writes 2] (.cons (by simp) (.cons (by simp) (.cons (by simp) .nil))) (.cons .pure (.cons (.reads 1 _ rfl) (.cons .pure (.cons (.reads 1 _ rfl) (.cons (.reads 0 _ rfl) (.cons .pure (.cons (.reads 1 _ rfl) (.cons (.lcalls _ _ fun i a ha hi => rfl) (.cons .pure (.cons (.news 2 _ rfl) (.cons (.writes 2 _ rfl) .nil))))))))))) (by kernel_rfl), hK _ _ ?_⟩; clear hK K
 have hSb := hSa.app [(AObj.cells [.lit (.int .u8 k), .lit (.string nm), .sl [] .full, .sl [] .full, .lit (.int .u8 amk'), .lit (.string amnm'), .lit (.bool amng'), .sl (limR amdg') .no, .lit (.bool amtr'), .sl [] .full, .sl [] .full] 49)]
 have hFb : Fr q nV σ (σa ++ [(AObj.cells [.lit (.int .u8 k), .lit (.string nm), .sl [] .full, .sl [] .full, .lit (.int .u8 amk'), .lit (.string amnm'), .lit (.bool amng'), .sl (limR amdg') .no, .lit (.bool amtr'), .sl [] .full, .sl [] .full] 49)]) := hFa.trans0 (hSa.frA nV [(AObj.cells [.lit (.int .u8 k), .lit (.string nm), .sl [] .full, .sl [] .full, .lit (.int .u8 amk'), .lit (.string amnm'), .lit (.bool amng'), .sl (limR amdg') .no, .lit (.bool amtr'), .sl [] .full, .sl [] .full] 49)])
 have b0 := (st_old (l := [(AObj.cells [.lit (.int .u8 k), .lit (.string nm), .sl [] .full, .sl [] .full, .lit (.int .u8 amk'), .lit (.string amnm'), .lit (.bool amng'), .sl (limR amdg') .no, .lit (.bool amtr'), .sl [] .full, .sl [] .full] 49)]) (show P < σa.length by omega)).trans g0
 have b1 := (st_old (l := [(AObj.cells [.lit (.int .u8 k), .lit (.string nm), .sl [] .full, .sl [] .full, .lit (.int .u8 amk'), .lit (.string amnm'), .lit (.bool amng'), .sl (limR amdg') .no, .lit (.bool amtr'), .sl [] .full, .sl [] .full] 49)]) (show P + 1 < σa.length by omega)).trans g1
 have b2 := (st_old (l := [(AObj.cells [.lit (.int .u8 k), .lit (.string nm), .sl [] .full, .sl [] .full, .lit (.int .u8 amk'), .lit (.string amnm'), .lit (.bool amng'), .sl (limR amdg') .no, .lit (.bool amtr'), .sl [] .full, .sl [] .full] 49)]) (show P + 2 < σa.length by omega)).trans g2
 have b3 : (σa ++ [(AObj.cells [.lit (.int .u8 k), .lit (.string nm), .sl [] .full, .sl [] .full, .lit (.int .u8 amk'), .lit (.string amnm'), .lit (.bool amng'), .sl (limR amdg') .no, .lit (.bool amtr'), .sl [] .full, .sl [] .full] 49)])[P + 3]? = some (AObj.cells [.lit (.int .u8 k), .lit (.string nm), .sl [] .full, .sl [] .full, .lit (.int .u8 amk'), .lit (.string amnm'), .lit (.bool amng'), .sl (limR amdg') .no, .lit (.bool amtr'), .sl [] .full, .sl [] .full] 49) := by rw [← hla]; simp
 have nb : ∀ j, P ≤ j → j < P + 4 → ¬ Own q (σa ++ [(AObj.cells [.lit (.int .u8 k), .lit (.string nm), .sl [] .full, .sl [] .full, .lit (.int .u8 amk'), .lit (.string amnm'), .lit (.bool amng'), .sl (limR amdg') .no, .lit (.bool amtr'), .sl [] .full, .sl [] .full] 49)]) j := fun j h1 h2 => (hno j h1 |> fun z e => by
  have := (own_keep (fun p hp => List.getElem?_append_left (hSa.lt hp)) j).1 e
  exact z this)
 have hlb2 : (σa ++ [(AObj.cells [.lit (.int .u8 k), .lit (.string nm), .sl [] .full, .sl [] .full, .lit (.int .u8 amk'), .lit (.string amnm'), .lit (.bool amng'), .sl (limR amdg') .no, .lit (.bool amtr'), .sl [] .full, .sl [] .full] 49)]).length = P + 4 := by simp [hla]
 generalize σa ++ [(AObj.cells [.lit (.int .u8 k), .lit (.string nm), .sl [] .full, .sl [] .full, .lit (.int .u8 amk'), .lit (.string amnm'), .lit (.bool amng'), .sl (limR amdg') .no, .lit (.bool amtr'), .sl [] .full, .sl [] .full] 49)] = σb at *
 refine JD.seqK fun K hK => J.cw (CW.region ?_)
 simp (maxDischargeDepth := 16) [zY]
 refine hK _ _ ?_; clear hK K
 refine JD.seqK fun KI hKI => ?_
 have fin : ∀ (nm' : ByteArray) (pl : Bnd) (u1 : List ByteArray) (tk6 : Tok) (σc : Sto) (fr : List (Nat × AV)) (tm : List AV), letN NFp l u k nm = (nm', pl.reverse ++ l, u1) → u1.length = u.length + (if k = 1 then [nm] else []).length → u1.length = u.length + pl.length → St q u1 st σc → Fr q nV σ σc → (∀ j, P ≤ j → j < P + 3 → σc[j]? = σb[j]?) → σc[P + 3]? = some (AObj.cells [.lit (.int .u8 k), .lit (.string nm'), .sl [] .full, .sl [] .full, .lit (.int .u8 amk'), .lit (.string amnm'), .lit (.bool amng'), .sl (limR amdg') .no, .lit (.bool amtr'), .sl [] .full, .sl [] .full] 49) → (∀ j, P ≤ j → j < P + 4 → ¬ Own q σc j) → sub [(2, .ptr P 0), (3, .ptr (P + 1) 0), (4, .ptr (P + 2) 0), (5, .ptr (P + 3) 0), (6, .sl (prR pl) tk6)] fr → KI (fm 57 fr tm) σc := by
  intro nm' pl u1 tk6 σc fr tm hle hl1 hl2 hSc hFc hKc c3 nc hfr
  rw [fm_sub hfr]
  refine hKI _ _ ?_
  rw [ef nm' _ u1 hle] at hR0
  have an1 := (anew_Ys (F := NFp) l u1 ty).len
  have an2 := (anew_Rs (F := NFp) l (renYs NFp l u1 ty).2 rh).len
  have an3 := (anew_Es (F := NFp) (pl.reverse ++ l) (renRs NFp l (renYs NFp l u1 ty).2 rh).2 bd).len
  have an4 := (anew_Ms (F := NFp) l (renEs NFp (pl.reverse ++ l) (renRs NFp l (renYs NFp l u1 ty).2 rh).2 bd).2 ar).len
  have c0 := (hKc P (by omega) (by omega)).trans b0
  have c1 := (hKc (P + 1) (by omega) (by omega)).trans b1
  have c2 := (hKc (P + 2) (by omega) (by omega)).trans b2
  have hcl := (List.getElem?_eq_some_iff.1 c3).1
  have hY := eachY_j (N := N) H.code H.ey q u1 st l ty .no σc hSc hl (by omega) (fun s hs => hb s (by simp [hs])) (by omega) (fun x hx => kind_j H x.n x (Nat.le_refl _) (by have := tyN_mem hx; omega) (by have := tyN_mem hx; omega))
  have hRh := fun (σd : Sto) (hSd : St q (renYs NFp l u1 ty).2 st σd) => eachR_j (N := N) H.code H.er q (renYs NFp l u1 ty).2 st l rh .no σd hSd hl (by omega) (fun s hs => hb s (by simp [hs])) (by omega) hr
  have hWi := fun (σe : Sto) (y : AObj) (ty' : List Ty) (rh' : List Rhs) (hSe : St q (renRs NFp l (renYs NFp l u1 ty).2 rh).2 st σe) (e0 : σe[P]? = some (AObj.cells [.ptr q.rid 0] 93)) (e1 : σe[P + 1]? = some (AObj.cells [.lit (.int .u8 k), .lit (.string nm), .sl (tyR ty) .no, .sl (rhsR rh) .no, .lit (.int .u8 amk), .lit (.string amnm), .lit (.bool amng), .sl (limR amdg) .no, .lit (.bool amtr), .sl (armR ar) .no, .sl (expR bd) .no] 49)) (e3 : σe[P + 3]? = some (AObj.cells [.lit (.int .u8 k), .lit (.string nm'), .sl (tyR ty') .no, .sl (rhsR rh') .no, .lit (.int .u8 amk'), .lit (.string amnm'), .lit (.bool amng'), .sl (limR amdg') .no, .lit (.bool amtr'), .sl [] .full, .sl [] .full] 49)) (ne : ∀ j, P ≤ j → j < P + 4 → ¬ Own q σe j) => within_j (N := N) H.code H.wis H.wib H.wi q (renRs NFp l (renYs NFp l u1 ty).2 rh).2 (renEs NFp (pl.reverse ++ l) (renRs NFp l (renYs NFp l u1 ty).2 rh).2 bd).2 st pl tk6 64 [.ptr (P + 1) 0, .ptr P 0, .ptr (P + 3) 0] (fun p => p = P + 3)
   (fun σ' => σ'[P + 3]? = some (.cells [.lit (.int .u8 k), .lit (.string nm'), .sl (tyR ty') .no, .sl (rhsR rh') .no, .lit (.int .u8 amk'), .lit (.string amnm'), .lit (.bool amng'), .sl (limR amdg') .no, .lit (.bool amtr'), .sl [] .full, .sl (expR (renEs NFp (pl.reverse ++ l) (renRs NFp l (renYs NFp l u1 ty).2 rh).2 bd).1) .no] 49)) σe hSe (by omega) (by omega) (by omega) (fun s => by have := h.h s; omega) (fun σ2 hS2 hF2 => by
    have hel := (List.getElem?_eq_some_iff.1 e3).1
    exact exprC_j H _ _ _ _ _ _ _ _ _ _ _ _ _ _ _ _ _ _ _ _ _ bd he q _ _ _ P σ2 hS2 (hl.push pl) (by omega) (fun s hs => hb s (by simp [hs])) (by omega) (hF2.get (ne P (by omega) (by omega)) (fun x => x) e0) (hF2.get (ne (P + 1) (by omega) (by omega)) (fun x => x) e1) (hF2.get (ne (P + 3) (by omega) (by omega)) (fun x => x) e3) (hF2.not (ne (P + 3) (by omega) (by omega)) (by omega)))
  have hMs := fun (σf : Sto) (hSf : St q (renEs NFp (pl.reverse ++ l) (renRs NFp l (renYs NFp l u1 ty).2 rh).2 bd).2 st σf) => eachM_j (N := N) H.code H.em q _ st l ar .no σf hSf hl (by omega) (fun s hs => hb s (by simp [hs])) (by omega) hm
  generalize (renYs NFp l u1 ty).1 = ty' at *
  generalize (renYs NFp l u1 ty).2 = uy at *
  generalize (renRs NFp l uy rh).1 = rh' at *
  generalize (renRs NFp l uy rh).2 = ur at *
  generalize (renEs NFp (pl.reverse ++ l) ur bd).1 = bd' at *
  generalize (renEs NFp (pl.reverse ++ l) ur bd).2 = ub at *
  generalize (renMs NFp l ub ar).1 = ar' at *
  generalize (renMs NFp l ub ar).2 = um at *
  simp only [Exp.cs] at hR0
  clear hfr hKI
  refine JD.seqK fun K hK => JD.draw1 [0, 1, 2, 3, 5, 6, 7, 8, 4, 10, 9, 11, 12, 13] [4, 9] [P, P + 1] (by simp) [.pure, .reads 1, .reads 0, .pure, .any, .pure, .reads 1, .reads 0, .pure, .any, .pure, .any, .pure, .any] [0, 1] (by kernel_rfl) ?_
  simp (maxDischargeDepth := 16) [zY, symD, c0, c1]
  refine hY.mono ?_
  rintro r σd ⟨rfl, hSd, hFd⟩
  have kd : ∀ j, P ≤ j → j < P + 4 → σd[j]? = σc[j]? ∧ ¬ Own q σd j := fun j h1 h2 => ⟨hFd.keep j (by omega) (nc j h1 h2) (fun x => x), hFd.not (nc j h1 h2) (by omega)⟩
  have d0 := (kd P (by omega) (by omega)).1.trans c0
  have d1 := (kd (P + 1) (by omega) (by omega)).1.trans c1
  have hdl := hFd.len
  simp (maxDischargeDepth := 16) [zY, symD, all_nil, all_cons]
  refine ⟨⟨d0, d1⟩, (hRh σd hSd).mono ?_⟩
  rintro r σe ⟨rfl, hSe, hFe⟩
  have ke : ∀ j, P ≤ j → j < P + 4 → σe[j]? = σc[j]? ∧ ¬ Own q σe j := fun j h1 h2 => ⟨(hFe.keep j (by omega) (kd j h1 h2).2 (fun x => x)).trans (kd j h1 h2).1, hFe.not (kd j h1 h2).2 (by omega)⟩
  have e0 := (ke P (by omega) (by omega)).1.trans c0
  have e1 := (ke (P + 1) (by omega) (by omega)).1.trans c1
  have e2 := (ke (P + 2) (by omega) (by omega)).1.trans c2
  have e3 := (ke (P + 3) (by omega) (by omega)).1.trans c3
  have hel := hFe.len
  have s3 : ∀ o, (σe.set (P + 3) o)[P + 3]? = some o := fun o => List.getElem?_set_self (by omega)
  simp (maxDischargeDepth := 16) [zY, symD, all_nil, all_cons, e3, s3]
  refine ⟨⟨e0.trans d0.symm, e1.trans d1.symm⟩, hK _ _ ?_⟩; clear hK K
  have hFae : Fr q nV σ σe := (hFc.trans0 hFd).trans0 hFe
  have n3 := (ke (P + 3) (by omega) (by omega)).2
  have hSg := hSe.set n3 (AObj.cells [.lit (.int .u8 k), .lit (.string nm'), .sl (tyR ty') .no, .sl (rhsR rh') .no, .lit (.int .u8 amk'), .lit (.string amnm'), .lit (.bool amng'), .sl (limR amdg') .no, .lit (.bool amtr'), .sl [] .full, .sl [] .full] 49)
  have hFg := hFae.trans (hSe.frS (V := fun p => p = P + 3) n3 (.inl rfl) (AObj.cells [.lit (.int .u8 k), .lit (.string nm'), .sl (tyR ty') .no, .sl (rhsR rh') .no, .lit (.int .u8 amk'), .lit (.string amnm'), .lit (.bool amng'), .sl (limR amdg') .no, .lit (.bool amtr'), .sl [] .full, .sl [] .full] 49)) fun p hp => .inr (by omega)
  have g0' : (σe.set (P + 3) (AObj.cells [.lit (.int .u8 k), .lit (.string nm'), .sl (tyR ty') .no, .sl (rhsR rh') .no, .lit (.int .u8 amk'), .lit (.string amnm'), .lit (.bool amng'), .sl (limR amdg') .no, .lit (.bool amtr'), .sl [] .full, .sl [] .full] 49))[P]? = some (AObj.cells [.ptr q.rid 0] 93) := by rw [List.getElem?_set_ne (by omega)]; exact e0
  have g1' : (σe.set (P + 3) (AObj.cells [.lit (.int .u8 k), .lit (.string nm'), .sl (tyR ty') .no, .sl (rhsR rh') .no, .lit (.int .u8 amk'), .lit (.string amnm'), .lit (.bool amng'), .sl (limR amdg') .no, .lit (.bool amtr'), .sl [] .full, .sl [] .full] 49))[P + 1]? = some (AObj.cells [.lit (.int .u8 k), .lit (.string nm), .sl (tyR ty) .no, .sl (rhsR rh) .no, .lit (.int .u8 amk), .lit (.string amnm), .lit (.bool amng), .sl (limR amdg) .no, .lit (.bool amtr), .sl (armR ar) .no, .sl (expR bd) .no] 49) := by rw [List.getElem?_set_ne (by omega)]; exact e1
  have g2' : (σe.set (P + 3) (AObj.cells [.lit (.int .u8 k), .lit (.string nm'), .sl (tyR ty') .no, .sl (rhsR rh') .no, .lit (.int .u8 amk'), .lit (.string amnm'), .lit (.bool amng'), .sl (limR amdg') .no, .lit (.bool amtr'), .sl [] .full, .sl [] .full] 49))[P + 2]? = some (.cells [.lit (.int .u8 0), .lit (.string ⟨#[]⟩), .sl [] .full, .sl [] .full, .lit (.int .u8 0), .lit (.string ⟨#[]⟩), .lit (.bool false), .sl [] .full, .lit (.bool false), .sl [] .full, .sl [] .full] 49) := by rw [List.getElem?_set_ne (by omega)]; exact e2
  have g3' := s3 (AObj.cells [.lit (.int .u8 k), .lit (.string nm'), .sl (tyR ty') .no, .sl (rhsR rh') .no, .lit (.int .u8 amk'), .lit (.string amnm'), .lit (.bool amng'), .sl (limR amdg') .no, .lit (.bool amtr'), .sl [] .full, .sl [] .full] 49)
  have ng : ∀ j, P ≤ j → j < P + 4 → ¬ Own q (σe.set (P + 3) (AObj.cells [.lit (.int .u8 k), .lit (.string nm'), .sl (tyR ty') .no, .sl (rhsR rh') .no, .lit (.int .u8 amk'), .lit (.string amnm'), .lit (.bool amng'), .sl (limR amdg') .no, .lit (.bool amtr'), .sl [] .full, .sl [] .full] 49)) j := fun j h1 h2 => (hSe.frS (V := fun p => p = P + 3) n3 (.inl rfl) (AObj.cells [.lit (.int .u8 k), .lit (.string nm'), .sl (tyR ty') .no, .sl (rhsR rh') .no, .lit (.int .u8 amk'), .lit (.string amnm'), .lit (.bool amng'), .sl (limR amdg') .no, .lit (.bool amtr'), .sl [] .full, .sl [] .full] 49)).not (ke j h1 h2).2 (by omega)
  have hgl : (σe.set (P + 3) (AObj.cells [.lit (.int .u8 k), .lit (.string nm'), .sl (tyR ty') .no, .sl (rhsR rh') .no, .lit (.int .u8 amk'), .lit (.string amnm'), .lit (.bool amng'), .sl (limR amdg') .no, .lit (.bool amtr'), .sl [] .full, .sl [] .full] 49)).length = σe.length := by simp
  generalize σe.set (P + 3) (AObj.cells [.lit (.int .u8 k), .lit (.string nm'), .sl (tyR ty') .no, .sl (rhsR rh') .no, .lit (.int .u8 amk'), .lit (.string amnm'), .lit (.bool amng'), .sl (limR amdg') .no, .lit (.bool amtr'), .sl [] .full, .sl [] .full] 49) = σg at *
  refine JD.keep [2, 3, 4, 5, 6] fun tm => ?_
  simp only [sel, List.contains_cons, List.contains_nil, Bool.or_false, Nat.reduceBEq, Bool.false_eq_true, if_false, if_true, Bool.or_true, Bool.true_or]
  refine JD.seqK fun K hK => JD.region ?_
  simp (maxDischargeDepth := 16) [zY, symL, g0']
  refine (hWi σg (.dead) ty' rh' hSg g0' g1' g3' ng).mono ?_
  rintro r σf ⟨rfl, hSf, hFf, σ2, hR, hS2, hF2, hF3⟩
  have f3 := hF2.get (hF3.not (ng (P + 3) (by omega) (by omega)) (by omega)) (fun x => x) hR
  have kf : ∀ j, P ≤ j → j < P + 3 → σf[j]? = σg[j]? := fun j h1 h2 => hFf.keep j (by omega) (ng j h1 (by omega)) (fun v => by omega)
  have nf : ∀ j, P ≤ j → j < P + 4 → ¬ Own q σf j := fun j h1 h2 => hFf.not (ng j h1 h2) (by omega)
  have f0 := (kf P (by omega) (by omega)).trans g0'
  have f1 := (kf (P + 1) (by omega) (by omega)).trans g1'
  have f2 := (kf (P + 2) (by omega) (by omega)).trans g2'
  have hfl := hFf.len
  have hFh : Fr q nV σ σf := hFg.trans hFf fun p hp => .inr (by omega)
  simp (maxDischargeDepth := 16) [zY, symL]
  refine hK _ _ ?_; clear hK K
  refine JD.seqK fun K hK => JD.region ?_
  simp (maxDischargeDepth := 16) [zY, symL, f0, f1]
  refine (hMs σf hSf).mono ?_
  rintro r σh ⟨rfl, hSh, hFi⟩
  have h3 := hFi.get (nf (P + 3) (by omega) (by omega)) (fun x => x) f3
  have h2 := hFi.get (nf (P + 2) (by omega) (by omega)) (fun x => x) f2
  have nh : ∀ j, P ≤ j → j < P + 4 → ¬ Own q σh j := fun j h1 h2 => hFi.not (nf j h1 h2) (by omega)
  have hhl := hFi.len
  have t3 : ∀ o, (σh.set (P + 3) o)[P + 3]? = some o := fun o => List.getElem?_set_self (by omega)
  have t2 : ∀ o, (σh.set (P + 3) o)[P + 2]? = some (.cells [.lit (.int .u8 0), .lit (.string ⟨#[]⟩), .sl [] .full, .sl [] .full, .lit (.int .u8 0), .lit (.string ⟨#[]⟩), .lit (.bool false), .sl [] .full, .lit (.bool false), .sl [] .full, .sl [] .full] 49) := fun o => by rw [List.getElem?_set_ne (by omega)]; exact h2
  simp (maxDischargeDepth := 16) [zY, symL, h3, t3]
  refine hK _ _ ?_; clear hK K
  refine JD.seqK fun K hK => J.cw (CW.region ?_)
  simp (maxDischargeDepth := 16) [zY, t3, t2]
  refine hK _ _ ?_; clear hK K
  have hS3 := hSh.set (nh (P + 3) (by omega) (by omega)) (AObj.cells [.lit (.int .u8 k), .lit (.string nm'), .sl (tyR ty') .no, .sl (rhsR rh') .no, .lit (.int .u8 amk'), .lit (.string amnm'), .lit (.bool amng'), .sl (limR amdg') .no, .lit (.bool amtr'), .sl (armR ar') .no, .sl (expR bd') .no] 49)
  have hF4 := hSh.frS (V := fun p => P ≤ p) (nh (P + 3) (by omega) (by omega)) (.inl (by show P ≤ P + 3; omega)) (AObj.cells [.lit (.int .u8 k), .lit (.string nm'), .sl (tyR ty') .no, .sl (rhsR rh') .no, .lit (.int .u8 amk'), .lit (.string amnm'), .lit (.bool amng'), .sl (limR amdg') .no, .lit (.bool amtr'), .sl (armR ar') .no, .sl (expR bd') .no] 49)
  have n2' := hF4.not (nh (P + 2) (by omega) (by omega)) (by omega)
  have hS5 := hS3.set n2' (AObj.cells [.lit (.int .u8 k), .lit (.string nm'), .sl (tyR ty') .no, .sl (rhsR rh') .no, .lit (.int .u8 amk'), .lit (.string amnm'), .lit (.bool amng'), .sl (limR amdg') .no, .lit (.bool amtr'), .sl (armR ar') .no, .sl (expR bd') .no] 49)
  have hF5 := hS3.frS (V := fun p => P ≤ p) n2' (.inl (by show P ≤ P + 2; omega)) (AObj.cells [.lit (.int .u8 k), .lit (.string nm'), .sl (tyR ty') .no, .sl (rhsR rh') .no, .lit (.int .u8 amk'), .lit (.string amnm'), .lit (.bool amng'), .sl (limR amdg') .no, .lit (.bool amtr'), .sl (armR ar') .no, .sl (expR bd') .no] 49)
  have r4 : ((σh.set (P + 3) (AObj.cells [.lit (.int .u8 k), .lit (.string nm'), .sl (tyR ty') .no, .sl (rhsR rh') .no, .lit (.int .u8 amk'), .lit (.string amnm'), .lit (.bool amng'), .sl (limR amdg') .no, .lit (.bool amtr'), .sl (armR ar') .no, .sl (expR bd') .no] 49)).set (P + 2) (AObj.cells [.lit (.int .u8 k), .lit (.string nm'), .sl (tyR ty') .no, .sl (rhsR rh') .no, .lit (.int .u8 amk'), .lit (.string amnm'), .lit (.bool amng'), .sl (limR amdg') .no, .lit (.bool amtr'), .sl (armR ar') .no, .sl (expR bd') .no] 49))[P + 2]? = some (AObj.cells [.lit (.int .u8 k), .lit (.string nm'), .sl (tyR ty') .no, .sl (rhsR rh') .no, .lit (.int .u8 amk'), .lit (.string amnm'), .lit (.bool amng'), .sl (limR amdg') .no, .lit (.bool amtr'), .sl (armR ar') .no, .sl (expR bd') .no] 49) := List.getElem?_set_self (by simp; omega)
  refine JD.ret (hR0 _ _ _ ⟨.agg [.lit (.int .u8 k), .lit (.string nm'), .sl (tyR ty') .no, .sl (rhsR rh') .no, .lit (.int .u8 amk'), .lit (.string amnm'), .lit (.bool amng'), .sl (limR amdg') .no, .lit (.bool amtr'), .sl (armR ar') .no, .sl (expR bd') .no], by simp [zA, omap, zC, zX, r4], rfl, hS5, ?_⟩)
  exact (hFh.trans0 hFi).trans (hF4.trans0 hF5) fun p hp => .inr (by omega)
 rcases Classical.em (k = 1) with hk | hk
 · have hk' := eq_true hk
   have hk2 : (k == 1) = true := by simp [hk]
   have hnm : nm.size ≤ 1000000000 := hb nm (by simp [hk])
   refine JD.seqK fun K hK => J.cw (CW.region ?_)
   simp (maxDischargeDepth := 16) [zY, b1, hk']
   refine hK _ _ ?_; clear hK K
   refine JD.cond (t := true) (by simp [zT, zF, lk, hk', hk2]) ?_
   have hfc := fresh_c (N := N) H.toFrH hSb nm hun hnm (by omega)
   refine JD.seqK fun K hK => JD.draw1 [0, 1, 2, 3, 4, 5, 6, 7] [5] [P, P + 1] (by simp) [.reads 0, .pure, .pure, .pure, .reads 1, .any, .pure, .any] [] (by kernel_rfl) ?_
   simp (maxDischargeDepth := 16) [zY, symD, b0, b1]
   refine hfc.toJ.mono ?_
   rintro r σc ⟨rfl, hSc, hFc⟩
   have hle : letN NFp l u k nm = (freshB u nm, [(nm, freshB u nm)].reverse ++ l, u ++ [freshB u nm]) := by rw [letN, if_pos hk]; rfl
   generalize freshB u nm = f at *
   have hcl := hFc.len
   have c3 := hFc.get (nb (P + 3) (by omega) (by omega)) (fun x => x) b3
   have n3 := hFc.not (nb (P + 3) (by omega) (by omega)) (by omega)
   simp (maxDischargeDepth := 16) [zY, symD, all_nil, c3]
   refine hK _ _ ?_; clear hK K
   have hFx := hSc.frS (V := fun p => p = P + 3) n3 (.inl rfl) (AObj.cells [.lit (.int .u8 k), .lit (.string f), .sl [] .full, .sl [] .full, .lit (.int .u8 amk'), .lit (.string amnm'), .lit (.bool amng'), .sl (limR amdg') .no, .lit (.bool amtr'), .sl [] .full, .sl [] .full] 49)
   have hSd := hSc.set n3 (AObj.cells [.lit (.int .u8 k), .lit (.string f), .sl [] .full, .sl [] .full, .lit (.int .u8 amk'), .lit (.string amnm'), .lit (.bool amng'), .sl (limR amdg') .no, .lit (.bool amtr'), .sl [] .full, .sl [] .full] 49)
   have d3 : (σc.set (P + 3) (AObj.cells [.lit (.int .u8 k), .lit (.string f), .sl [] .full, .sl [] .full, .lit (.int .u8 amk'), .lit (.string amnm'), .lit (.bool amng'), .sl (limR amdg') .no, .lit (.bool amtr'), .sl [] .full, .sl [] .full] 49))[P + 3]? = some (AObj.cells [.lit (.int .u8 k), .lit (.string f), .sl [] .full, .sl [] .full, .lit (.int .u8 amk'), .lit (.string amnm'), .lit (.bool amng'), .sl (limR amdg') .no, .lit (.bool amtr'), .sl [] .full, .sl [] .full] 49) := List.getElem?_set_self (by omega)
   have kd : ∀ j, P ≤ j → j < P + 3 → (σc.set (P + 3) (AObj.cells [.lit (.int .u8 k), .lit (.string f), .sl [] .full, .sl [] .full, .lit (.int .u8 amk'), .lit (.string amnm'), .lit (.bool amng'), .sl (limR amdg') .no, .lit (.bool amtr'), .sl [] .full, .sl [] .full] 49))[j]? = σb[j]? := fun j h1 h2 => by rw [List.getElem?_set_ne (by omega)]; exact hFc.keep j (by omega) (nb j h1 (by omega)) (fun x => x)
   have nd : ∀ j, P ≤ j → j < P + 4 → ¬ Own q (σc.set (P + 3) (AObj.cells [.lit (.int .u8 k), .lit (.string f), .sl [] .full, .sl [] .full, .lit (.int .u8 amk'), .lit (.string amnm'), .lit (.bool amng'), .sl (limR amdg') .no, .lit (.bool amtr'), .sl [] .full, .sl [] .full] 49)) j := fun j h1 h2 => hFx.not (hFc.not (nb j h1 h2) (by omega)) (by omega)
   have hdl : (σc.set (P + 3) (AObj.cells [.lit (.int .u8 k), .lit (.string f), .sl [] .full, .sl [] .full, .lit (.int .u8 amk'), .lit (.string amnm'), .lit (.bool amng'), .sl (limR amdg') .no, .lit (.bool amtr'), .sl [] .full, .sl [] .full] 49)).length = σc.length := by simp
   have hFy : Fr q nV σ (σc.set (P + 3) (AObj.cells [.lit (.int .u8 k), .lit (.string f), .sl [] .full, .sl [] .full, .lit (.int .u8 amk'), .lit (.string amnm'), .lit (.bool amng'), .sl (limR amdg') .no, .lit (.bool amtr'), .sl [] .full, .sl [] .full] 49)) := (hFb.trans0 hFc).trans hFx fun p hp => .inr (by omega)
   generalize σc.set (P + 3) (AObj.cells [.lit (.int .u8 k), .lit (.string f), .sl [] .full, .sl [] .full, .lit (.int .u8 amk'), .lit (.string amnm'), .lit (.bool amng'), .sl (limR amdg') .no, .lit (.bool amtr'), .sl [] .full, .sl [] .full] 49) = σd at *
   have d1 := (kd (P + 1) (by omega) (by omega)).trans b1
   obtain ⟨tok', σe, acc, hacc, hap⟩ := app_full (P := Tryz.prog) (M := []) (σ := σd) (t := 143) (e := 141) (k := 1) (by_ := 32) (es := []) (fs := [[.lit (.string nm), .lit (.string f)]]) (by kernel_rfl) (by kernel_rfl) (by kernel_rfl) (by kernel_rfl) (by simp) (by simp) (by simp) (by simp)
   rw [show [] ++ stripRows [[.lit (.string nm), .lit (.string f)]] = prR [(nm, f)] from rfl] at hap
   have hE : St q (u ++ [f]) st σe ∧ Fr q nV σ σe ∧ (∀ j, P ≤ j → j < P + 3 → σe[j]? = σb[j]?) ∧ σe[P + 3]? = some (AObj.cells [.lit (.int .u8 k), .lit (.string f), .sl [] .full, .sl [] .full, .lit (.int .u8 amk'), .lit (.string amnm'), .lit (.bool amng'), .sl (limR amdg') .no, .lit (.bool amtr'), .sl [] .full, .sl [] .full] 49) ∧ (∀ j, P ≤ j → j < P + 4 → ¬ Own q σe j) := by
    rcases hacc with ⟨rfl, _⟩ | ⟨o, rfl, _⟩
    · exact ⟨hSd, hFy, kd, d3, nd⟩
    · exact ⟨hSd.app _, hFy.trans0 (hSd.frA nV _), fun j h1 h2 => (st_old (by omega)).trans (kd j h1 h2), (st_old (by omega)).trans d3, fun j h1 h2 => (hSd.frA nV _).not (nd j h1 h2) (by omega)⟩
   obtain ⟨q1, q2, q3, q4, q5⟩ := hE
   refine J.cw (CW.region ?_)
   simp (maxDischargeDepth := 16) [zY, d1, d3, hap]
   exact fin f [(nm, f)] (u ++ [f]) tok' σe _ _ hle (by simp [hk]) (by simp) q1 q2 q3 q4 q5 (by simp [sub, lk])
 · have hk' := eq_false hk
   have hk2 : (k == 1) = false := by simp [hk]
   refine JD.seqK fun K hK => J.cw (CW.region ?_)
   simp (maxDischargeDepth := 16) [zY, b1, hk']
   refine hK _ _ ?_; clear hK K
   refine JD.cond (t := false) (by simp [zT, zF, lk, hk', hk2]) ?_
   exact JD.skip (fin nm [] u .full σb _ _ (by rw [letN, if_neg hk]; rfl) (by simp [hk]) (by simp) hSb hFb (fun j _ _ => rfl) b3 nb (by simp [sub, lk, prR]))
end
section
open Go.RowKit
theorem evLit_mk {P : Program} {ρ : Operand → Option AV} {σ : Sto} {t : TypeId} {ds : Option Tmp} {ty : TypeId} {po : String} {af : Array Edge} {gu : Option (Nat × Bool)} (w : World) : evLit P ρ σ ⟨ds, .makeMap t none, ty, po, af, gu⟩ = none := by
 unfold evLit
 dsimp only
 split
 · have hr : (execOp (fun x => ((ρ x).bind conc).getD undef) ⟨ds, .makeMap t none, ty, po, af, gu⟩).run P w = .ok (.value (.map (some w.heap.size))) (w.alloc (.map #[] 0)) := by
    unfold execOp
    refine run_v ?_
    simp [Instr.makeMap, Result.andThen]
   cases hp : pureRun P (execOp (fun x => ((ρ x).bind conc).getD undef) ⟨ds, .makeMap t none, ty, po, af, gu⟩) with
   | none => rfl
   | some q =>
    cases q with
    | inl x =>
     have := pureRun_ok hp w
     rw [hr] at this
     injection this with _ h2
     have h3 := congrArg (fun w : World => w.heap.size) h2
     simp at h3
    | inr v =>
     have := pureRun_panic hp w
     rw [hr] at this
     cases this
 · rfl
theorem es_mk {P : Program} {M : List TypeId} {ρ : Operand → Option AV} {σ : Sto} {t kt e : TypeId} {q : KK} {ds : Option Tmp} {ty : TypeId} {po : String} {af : Array Edge} {gu : Option (Nat × Bool)} (h1 : P.underlying t = some (.map kt e)) (h2 : (P.underlying kt).bind kkOf = some q) :
    evStep P M ρ σ ⟨ds, .makeMap t none, ty, po, af, gu⟩ = some (.val (.mp σ.length) (σ ++ [.map q []]) (.news σ.length)) := by
 rw [es_makeMap]
 unfold evStepU
 rw [evLit_mk default]
 simp [evPure, evMem, evMk, h1, h2]
end
end Go.Proofs.YteajcnilihgheaaGreatDoor
