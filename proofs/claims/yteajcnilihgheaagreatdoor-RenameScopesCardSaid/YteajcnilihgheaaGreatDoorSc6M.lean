/-
 EV: the document's answer for layer 19: fun.
-/
import Derived.Test.YteajcnilihgheaaGreatDoorSc4M
import Derived.Test.YteajcnilihgheaaGreatDoorRw15M
namespace Go.Proofs.YteajcnilihgheaaGreatDoor
set_option maxRecDepth 100000
set_option maxHeartbeats 8000000
set_option linter.unusedSimpArgs false
set_option linter.unusedVariables false
section
open Go.RowKit
variable {S : Sp} {N : Nat}
structure G9 (q : Q9) (σ0 σ : Sto) (m : Nat) (e : TypeId) (tok : Tok) : Prop where
 t : TokS σ m e tok
 o : ∀ p, tok = .own p → ¬ O9 q σ p ∧ σ0.length ≤ p
theorem G9.nil (q : Q9) (σ0 σ : Sto) (e : TypeId) : G9 q σ0 σ 0 e .full := ⟨.inl ⟨rfl, rfl⟩, fun p h => by cases h⟩
theorem G9.keep {q : Q9} {V : Nat → Prop} {σ0 σ σ' : Sto} {m : Nat} {e : TypeId} {tok : Tok} (h : G9 q σ0 σ m e tok) (hf : F9 q V σ σ') (hV : ∀ p, V p → tok ≠ .own p) : G9 q σ0 σ' m e tok := by
 refine ⟨?_, fun p hp => ?_⟩
 · rcases h.t with g | ⟨i, e1, e2⟩
   · exact .inl g
   · have hl := (List.getElem?_eq_some_iff.1 e2).1
     exact .inr ⟨i, e1, by rw [hf.keep i hl (h.o i e1).1 fun v => hV i v e1]; exact e2⟩
 · have h1 := h.o p hp
   rcases h.t with ⟨g, _⟩ | ⟨i, e1, e2⟩
   · rw [g] at hp; cases hp
   · rw [e1] at hp
     cases hp
     exact ⟨hf.not h1.1 (List.getElem?_eq_some_iff.1 e2).1, h1.2⟩
theorem G9.next {q : Q9} {u : List ByteArray} {σ0 σ σ' : Sto} {m m' : Nat} {e : TypeId} {tok tok' : Tok} (h : G9 q σ0 σ m e tok) (hs : S9 q u σ) (hl0 : σ0.length ≤ σ.length) (ht : TokS σ' m' e tok') (hl : σ.length ≤ σ'.length) (hk : ∀ p, p < σ.length → tok ≠ .own p → σ'[p]? = σ[p]?) (ho : ∀ i, tok' = .own i → tok = .own i ∨ σ.length ≤ i) :
    G9 q σ0 σ' m' e tok' ∧ S9 q u σ' ∧ F9 q (fun p => tok = .own p) σ σ' := by
 have hown : ∀ p, O9 q σ p → σ'[p]? = σ[p]? := fun p hp => hk p (hs.lt hp) fun e => (h.o p e).1 hp
 refine ⟨⟨ht, fun p hp => ?_⟩, hs.keep hown, hl, fun p hp _ hv => hk p hp hv, fun p hp => .inl ((o9_keep hown p).1 hp)⟩
 rcases ho p hp with g | g
 · exact ⟨fun x => (h.o p g).1 ((o9_keep hown p).1 x), (h.o p g).2⟩
 · exact ⟨fun x => by have := hs.lt ((o9_keep hown p).1 x); omega, by omega⟩
theorem renPs_app (l : Bnd) : ∀ (u : List ByteArray) (a b : List Prm), renPs NFp l u (a ++ b) = ((renPs NFp l u a).1 ++ (renPs NFp (renPs NFp l u a).2.1 (renPs NFp l u a).2.2 b).1, (renPs NFp (renPs NFp l u a).2.1 (renPs NFp l u a).2.2 b).2) := by
 intro u a
 induction a generalizing l u with
 | nil => intro b; simp only [renPs, List.nil_append]
 | cons p a ih => intro b; rw [List.cons_append, renPs, ih, renPs]; rfl
theorem renPs_take (l : Bnd) (u : List ByteArray) {a : List Prm} {i : Nat} (h : i < a.length) : renPs NFp l u (a.take (i + 1)) = ((renPs NFp l u (a.take i)).1 ++ [(renP NFp (renPs NFp l u (a.take i)).2.1 (renPs NFp l u (a.take i)).2.2 a[i]).1], ((a[i].nmOf, (renP NFp (renPs NFp l u (a.take i)).2.1 (renPs NFp l u (a.take i)).2.2 a[i]).1.nmOf) :: (renPs NFp l u (a.take i)).2.1, (renP NFp (renPs NFp l u (a.take i)).2.1 (renPs NFp l u (a.take i)).2.2 a[i]).2)) := by
 rw [List.take_succ_eq_append_getElem h, renPs_app, renPs, renPs]
theorem renPs_l1 (l : Bnd) (u : List ByteArray) (a : List Prm) : (renPs NFp l u a).1.length = a.length := by
 induction a generalizing l u with
 | nil => simp only [renPs]
 | cons p a ih => rw [renPs, List.length_cons, ih, List.length_cons]
theorem renPs_l2 (l : Bnd) (u : List ByteArray) (a : List Prm) : (renPs NFp l u a).2.1.length = l.length + a.length := by
 induction a generalizing l u with
 | nil => simp only [renPs, List.length_nil, Nat.add_zero]
 | cons p a ih => rw [renPs, ih, List.length_cons, List.length_cons]; omega
theorem bPs_len (a : List Prm) : a.length ≤ (bPs a).length := by
 rw [bPs_f]
 induction a with
 | nil => exact Nat.le_refl _
 | cons p a ih =>
  obtain ⟨nm, ty⟩ := p
  rw [List.flatMap_cons, List.length_append, bP, List.length_cons, List.length_cons]; omega
theorem Prm.cs_eq (nm : ByteArray) (y : Ty) : (Prm.mk nm y).cs = .lit (.string nm) :: y.cs := by obtain ⟨_, _, ⟨_, _, _, _, _⟩, _, _⟩ := y; rfl
theorem and9_inj (a b : List (ByteArray × ByteArray) × ByteArray × ByteArray) (e : [AV.sl (bndR a.1) .no, .lit (.string a.2.1), .lit (.string a.2.2)] = [.sl (bndR b.1) .no, .lit (.string b.2.1), .lit (.string b.2.2)]) : a = b := by
 simp only [List.cons.injEq, AV.sl.injEq, AV.lit.injEq, Value.string.injEq, and_true] at e
 exact Prod.ext (bndR_inj e.1) (Prod.ext e.2.1 e.2.2)
theorem put1 {a : AV} {z r : List AV} (h : z.length = r.length) : putCells (a :: z) 1 r = a :: r := putCells_at r z [a] h
theorem fun9_j (H : H9K S) (ps : List Prm) (rs : List Ty) (hps : ps.length ≤ 1000000000) (hrs : rs.length ≤ 1000000000) (hN : 0 < N) (hp : ∀ nm ty, Prm.mk nm ty ∈ ps → K9 S N 74 Ty.cs (renY NFp) bY ty) (hr : ∀ t ∈ rs, K9 S N 74 Ty.cs (renY NFp) bY t) : Fu9 S N ps rs := by
 intro q u l0 σ h hl hu hb
 obtain ⟨l, hlr⟩ : ∃ l, l = l0.reverse := ⟨_, rfl⟩
 rw [← hlr]
 obtain rfl : l0 = l.reverse := by rw [hlr, List.reverse_reverse]
 clear hlr
 rw [List.length_reverse, List.length_append] at hl
 rw [List.length_append] at hu
 have hbp : ∀ s ∈ bPs ps, s.size ≤ 1000000000 := fun s hs => hb s (List.mem_append_left _ hs)
 have hbr : ∀ s ∈ bYs rs, s.size ≤ 1000000000 := fun s hs => hb s (List.mem_append_right _ hs)
 clear hb
 rw [renYs_f]
 refine J.callNrm (R := fun r σ' => (∃ t1 t2, r = .ret (.tup [.sl (prmR (renPs NFp l u ps).1) t1, .sl (tyR (foldR (renY NFp (renPs NFp l u ps).2.1) (renPs NFp l u ps).2.2 rs).1) t2, .sl (bndR (renPs NFp l u ps).2.1.reverse) .no])) ∧ S9 q (foldR (renY NFp (renPs NFp l u ps).2.1) (renPs NFp l u ps).2.2 rs).2 σ' ∧ F9 q nV σ σ') ?_ (fun v σ' h => ?_) (fun v σ' h => by obtain ⟨⟨t1, t2, e⟩, _⟩ := h; cases e)
 rotate_left
 · obtain ⟨⟨t1, t2, e⟩, h2⟩ := h
   cases e
   exact ⟨by simp only [AV.nrm, nrmR, tyR_nrm, prmR_nrm, bndR_nrm], h2⟩
 simp only [nrmR, AV.nrm, prmR_nrm, tyR_nrm, bndR_nrm]
 refine JC.startG (fn := Tryz.f45) (codeOf H.code Tryz.func45 rfl (by kernel_rfl)) rfl H.fn rfl (zL rfl) fun tm => ?_
 refine JD.hide fun R0 hR0 => ?_
 refine JD.seqK fun K hK => J.cw (CW.region ?_)
 simp (maxDischargeDepth := 16) [zY]
 refine hK _ _ ?_; clear hK K
 refine JD.seqK fun K hK => J.cw (CW.region ?_)
 simp (maxDischargeDepth := 16) [zY]
 refine hK _ _ ?_; clear hK K
 refine JD.seqK fun K hK => J.cw (CW.region ?_)
 simp (maxDischargeDepth := 16) [zY]
 refine hK _ _ ?_; clear hK K
 refine JD.seqK fun KL hKL => ?_
 refine JD.seqK fun K hK => J.cw (CW.region ?_)
 simp (maxDischargeDepth := 16) [zY]
 refine hK _ _ ?_; clear hK K
 refine JD.block (JD.hide fun R1 hR1 => ?_)
 have hbl : ∀ l u x, (renY NFp l u x).2.length = u.length + (bY x).length := fun l u x => (anew_Y l u x).len
 refine JD.loopF (fun p : Nat × Tok × Sto => [(0, .ptr q.rid 0), (1, .sl (bndR (renPs NFp l u (ps.take p.1)).2.1.reverse) .no), (2, .sl (prmR ps) .no), (3, .sl (tyR rs) .no), (11, .sl (prmR (renPs NFp l u (ps.take p.1)).1) p.2.1), (12, .sl [] .full), (13, intV p.1)]) (fun p => p.2.2) (fun p => p.1 ≤ ps.length ∧ S9 q (renPs NFp l u (ps.take p.1)).2.2 p.2.2 ∧ F9 q nV σ p.2.2 ∧ G9 q σ p.2.2 (p.1 * 10) 37 p.2.1) (fun p => ps.length - p.1) (0, .full, σ) (by simp [sub, lk, renPs, prmR]) rfl ⟨by simp, by simpa [renPs] using h, F9.refl _ _ _, by simpa using G9.nil q σ σ 37⟩ ?_
 rintro ⟨i, tok, σ1⟩ tm ⟨hi, hS, hF, hG⟩ R2 hR2 hR2x
 dsimp only at hi hS hF hG hR2 ⊢
 refine JD.seqK fun K3 hK3 => ?_
 rcases Nat.lt_or_ge i ps.length with hlt | hge
 · have ha := prmR_get hlt
   have hmem : ps[i] ∈ ps := List.getElem_mem hlt
   have htake := renPs_take l u hlt
   obtain ⟨hf1, hf2⟩ := flat_take (b := bP) hlt
   have hsub : ∀ s ∈ bP ps[i], s ∈ bPs ps := fun s hs => by rw [bPs_f]; exact List.mem_flatMap.2 ⟨_, hmem, hs⟩
   have h11 := renPs_l1 l u (ps.take i)
   have h12 := renPs_l2 l u (ps.take i)
   have h13 := (anew_Ps (F := NFp) l u (ps.take i)).len
   have h14 := bPs_len (ps.take i)
   rw [List.length_take_of_le hi] at h11 h12 h14
   rw [bPs_f] at h13 h14
   rw [bPs_f] at hl hu
   refine JD.seqK fun K hK => J.cw (CW.region ?_)
   simp (maxDischargeDepth := 16) [zY, hlt]
   refine hK _ _ ?_; clear hK K
   refine JD.cond (t := true) (by simp [zT, zF, lk]) ?_
   refine JD.skip (hK3 _ _ ?_)
   refine JD.keep [0, 1, 2, 3, 11, 12, 13] fun tm => ?_
   simp only [sel, List.contains_cons, List.contains_nil, Bool.or_false, Nat.reduceBEq, Bool.false_eq_true, if_false, if_true, Bool.or_true, Bool.true_or]
   refine JD.seqK fun K5 hK5 => JD.block ?_
   have fin : ∀ (Y : Prm) (b : Bnd) (u2 : List ByteArray) (tok2 : Tok) (σ2 : Sto) (fr : List (Nat × AV)) (tm : List AV), renPs NFp l u (ps.take (i + 1)) = ((renPs NFp l u (ps.take i)).1 ++ [Y], b, u2) → S9 q u2 σ2 → F9 q nV σ σ2 → G9 q σ σ2 ((i + 1) * 10) 37 tok2 → sub [(0, .ptr q.rid 0), (1, .sl (bndR b.reverse) .no), (2, .sl (prmR ps) .no), (3, .sl (tyR rs) .no), (11, .sl (prmR ((renPs NFp l u (ps.take i)).1 ++ [Y])) tok2), (12, .sl [] .full), (13, intV i)] fr → K5 (fm 73 fr tm) σ2 := by
    intro Y b u2 tok2 σ2 fr tm e g1 g2 g3 hfr
    rw [fm_sub hfr]
    refine hK5 _ _ (J.cw (CW.region ?_))
    simp (maxDischargeDepth := 16) [zY, wrap_succ (show i ≤ 1000000000000 by omega)]
    refine hR2 _ _ ⟨(i + 1, tok2, σ2), _, _, rfl, ?_, rfl, ⟨hlt, ?_, g2, g3⟩, show ps.length - (i + 1) < ps.length - i by omega⟩
    · simp only [e]
      simp [sub, lk]
    · show S9 q (renPs NFp l u (ps.take (i + 1))).2.2 σ2
      rw [e]; exact g1
   clear hR2 hR2x hK5 hK3
   generalize (renPs NFp l u (ps.take i)).1 = Pi at *
   generalize (renPs NFp l u (ps.take i)).2.1 = li at *
   generalize (renPs NFp l u (ps.take i)).2.2 = ui at *
   generalize ps[i] = p at *
   obtain ⟨nm, ty⟩ := p
   have hk := hp nm ty hmem
   have hbe : bP (.mk nm ty) = nm :: bY ty := by rw [bP]
   rw [hbe] at hf2 hsub
   rw [List.length_cons] at hf2
   rw [renP] at htake
   rw [Prm.cs_eq] at ha
   refine JD.seqK fun K hK => J.cw (CW.region ?_)
   simp (maxDischargeDepth := 16) [zY, ha, Ty.len]
   refine (fresh9_ev H.toH9 q ui nm σ1 hS (by omega) (hbp nm (hsub nm (by simp))) hN).mono ?_
   rintro r σ2 ⟨rfl, hS2, hF2⟩
   have hG2 := hG.keep hF2 fun p h => h.elim
   change renPs NFp l u (ps.take (i + 1)) = (Pi ++ [.mk (freshB ui nm) (renY NFp li (ui ++ [freshB ui nm]) ty).1], (nm, freshB ui nm) :: li, (renY NFp li (ui ++ [freshB ui nm]) ty).2) at htake
   generalize freshB ui nm = nw at *
   simp (maxDischargeDepth := 16) [zY]
   refine hK _ _ ?_; clear hK K
   refine JD.seqK fun K hK => JD.region ?_
   simp (maxDischargeDepth := 16) [zY, symL, ha, Ty.len, Ty.tk]
   have hkk := hk q (ui ++ [nw]) li.reverse σ2 hS2 (by rw [List.length_reverse]; omega) (by rw [List.length_append, List.length_singleton]; omega) (fun s hs => hbp s (hsub s (List.mem_cons_of_mem _ hs)))
   rw [List.reverse_reverse] at hkk
   refine hkk.mono ?_
   rintro r σ3 ⟨rfl, hS3, hF3⟩
   have hG3 := hG2.keep hF3 fun p h => h.elim
   generalize (renY NFp li (ui ++ [nw]) ty).1 = y at *
   generalize (renY NFp li (ui ++ [nw]) ty).2 = uy at *
   have hS4 := hS3.app [AObj.cells y.cs 34]
   have hF4 := hS3.frA nV [AObj.cells y.cs 34]
   have hG4 := hG3.keep hF4 fun p h => h.elim
   have hy1 : (σ3 ++ [AObj.cells y.cs 34])[σ3.length]? = some (AObj.cells y.cs 34) := by simp
   have hF14 := ((hF.trans0 hF2).trans0 hF3).trans0 hF4
   have hl4 := hF14.len
   simp (maxDischargeDepth := 16) [zY, symL, Ty.len, Ty.tk, Ty.put, set_last]
   refine hK _ _ ?_; clear hK K
   generalize hσ4 : σ3 ++ [AObj.cells y.cs 34] = σ4 at *
   obtain ⟨tok', σ5, acc, t1, t2, t3, t4, hap⟩ := app_own (P := Tryz.prog) (M := []) (σ := σ4) (t := 31) (e := 37) (k := 9) (by_ := 168) (es := prmR Pi) (fs := [.lit (.string nw) :: y.cs]) (by kernel_rfl) (by kernel_rfl) (by kernel_rfl) (by kernel_rfl) (by rw [prmR_len, h11]; exact hG4.t) (prmR_hd _) (by simp [Ty.len]) (by simp only [prmR_len, h11, List.length_singleton]; omega) (by simp only [prmR_len, h11, List.length_singleton]; omega)
   have hrow : prmR Pi ++ stripRows [.lit (.string nw) :: y.cs] = prmR (Pi ++ [.mk nw y]) := by rw [prmR_app, ← Prm.cs_eq]; simp [stripRows, Prm.stp, prmR]
   rw [hrow] at hap
   obtain ⟨g1, g2, g3⟩ := hG4.next hS4 hl4 t1 t2 t3 t4
   rw [prmR_len, h11, List.length_singleton] at g1
   refine JD.seqK fun K hK => J.cw (CW.region ?_)
   simp (maxDischargeDepth := 16) [zY, hy1, Ty.len, Ty.tk, put1, hap]
   refine hK _ _ ?_; clear hK K
   refine J.cw (CW.region ?_)
   simp (maxDischargeDepth := 16) [zY, ha, Ty.len]
   refine call_sm (li.reverse, nm, nw) H.nd and9_inj (by simp only [nrmR, AV.nrm, bndR_nrm]) (by show li.reverse.length ≤ _; rw [List.length_reverse]; omega) (by omega) fun _ => ?_
   simp (maxDischargeDepth := 16) [zY]
   refine fin _ _ _ tok' σ5 _ _ htake g2 (hF14.trans g3 fun p hp => .inr (hG4.o p hp).2) g1 ?_
   simp [sub, lk]
 · obtain rfl : i = ps.length := by omega
   rw [List.take_length] at hS ⊢
   have h13 := (anew_Ps (F := NFp) l u ps).len
   have h12 := renPs_l2 l u ps
   have h14 := bPs_len ps
   refine JD.seqK fun K hK => J.cw (CW.region ?_)
   simp (maxDischargeDepth := 16) [zY, Nat.not_lt.2 hge]
   refine hK _ _ ?_; clear hK K
   refine JD.cond (t := false) (by simp [zT, zF, lk]) ?_
   refine JD.exit (hR2x _ _ _ (by simp) (hR1 _ _ _ ?_))
   simp only [outOf, if_true]
   refine hKL _ _ ?_
   clear hKL hR1 hR2x hR2 hK3 R2 R1 KL K3 hp hbp hG
   generalize (renPs NFp l u ps).1 = P at *
   generalize (renPs NFp l u ps).2.1 = lp at *
   generalize (renPs NFp l u ps).2.2 = up at *
   refine JD.keep [0, 1, 3, 11, 12] fun tm => ?_
   simp only [sel, List.contains_cons, List.contains_nil, Bool.or_false, Nat.reduceBEq, Bool.false_eq_true, if_false, if_true, Bool.or_true, Bool.true_or]
   rw [bYs_f] at hl hu hbr
   refine JD.seqK fun KL hKL => ?_
   refine JD.seqK fun K hK => J.cw (CW.region ?_)
   simp (maxDischargeDepth := 16) [zY]
   refine hK _ _ ?_; clear hK K
   refine JD.block (JD.hide fun R1 hR1 => ?_)
   refine JD.loopF (fun p : Nat × Tok × Sto => [(0, .ptr q.rid 0), (1, .sl (bndR lp.reverse) .no), (3, .sl (tyR rs) .no), (11, .sl (prmR P) tok), (12, .sl (tyR (foldR (renY NFp lp) up (rs.take p.1)).1) p.2.1), (16, intV p.1)]) (fun p => p.2.2) (fun p => p.1 ≤ rs.length ∧ S9 q (foldR (renY NFp lp) up (rs.take p.1)).2 p.2.2 ∧ F9 q nV σ p.2.2 ∧ G9 q σ p.2.2 (p.1 * 9) 34 p.2.1) (fun p => rs.length - p.1) (0, .full, σ1) (by simp [sub, lk, foldR, tyR]) rfl ⟨by simp, by simpa [foldR] using hS, hF, by simpa using G9.nil q σ σ1 34⟩ ?_
   clear hS hF
   rintro ⟨i, tok2, σ2⟩ tm ⟨hi, hS, hF, hG⟩ R2 hR2 hR2x
   dsimp only at hi hS hF hG hR2 ⊢
   refine JD.seqK fun K3 hK3 => ?_
   rcases Nat.lt_or_ge i rs.length with hlt | hge2
   · have ha := tyR_get hlt
     have hft := foldR_take (renY NFp lp) up hlt
     have hfl : (foldR (renY NFp lp) up (rs.take i)).1.length = i := by rw [foldR_len]; exact List.length_take_of_le hi
     obtain ⟨hle, hmem⟩ := foldR_le (fun u x => hbl lp u x) up hlt
     have hbs : (bY rs[i]).length ≤ (rs.flatMap bY).length := by have := (flat_take (b := bY) hlt).2; omega
     have hone := hr _ (List.getElem_mem hlt)
     refine JD.seqK fun K hK => J.cw (CW.region ?_)
     simp (maxDischargeDepth := 16) [zY, hlt]
     refine hK _ _ ?_; clear hK K
     refine JD.cond (t := true) (by simp [zT, zF, lk]) ?_
     refine JD.skip (hK3 _ _ ?_)
     refine JD.keep [0, 1, 3, 11, 12, 16] fun tm => ?_
     simp only [sel, List.contains_cons, List.contains_nil, Bool.or_false, Nat.reduceBEq, Bool.false_eq_true, if_false, if_true, Bool.or_true, Bool.true_or]
     refine JD.seqK fun K5 hK5 => JD.block ?_
     generalize rs[i] = x at *
     generalize hui : (foldR (renY NFp lp) up (rs.take i)).2 = ui at *
     generalize hoi : (foldR (renY NFp lp) up (rs.take i)).1 = oi at *
     refine JD.seqK fun K hK => JD.region ?_
     simp (maxDischargeDepth := 16) [zY, symL, ha, Ty.len, Ty.tk]
     have hkk := hone q ui lp.reverse σ2 hS (by rw [List.length_reverse]; omega) (by omega) (fun s hs => hbr s (hmem s hs))
     rw [List.reverse_reverse] at hkk
     refine hkk.mono ?_
     rintro r σ3 ⟨rfl, hS3, hF3⟩
     have hG3 := hG.keep hF3 fun p h => h.elim
     generalize hy : (renY NFp lp ui x).1 = y at *
     generalize (renY NFp lp ui x).2 = uy at *
     have hS4 := hS3.app [AObj.cells y.cs 34]
     have hF4 := hS3.frA nV [AObj.cells y.cs 34]
     have hG4 := hG3.keep hF4 fun p h => h.elim
     have hy1 : (σ3 ++ [AObj.cells y.cs 34])[σ3.length]? = some (AObj.cells y.cs 34) := by simp
     have hF14 := (hF.trans0 hF3).trans0 hF4
     have hl4 := hF14.len
     simp (maxDischargeDepth := 16) [zY, symL, Ty.len, Ty.tk, Ty.put, set_last]
     refine hK _ _ ?_; clear hK K
     generalize hσ4 : σ3 ++ [AObj.cells y.cs 34] = σ4 at *
     obtain ⟨tok', σ5, acc, t1, t2, t3, t4, hap⟩ := app_own (P := Tryz.prog) (M := []) (σ := σ4) (t := 32) (e := 34) (k := 8) (by_ := 152) (es := tyR oi) (fs := [y.cs]) (by kernel_rfl) (by kernel_rfl) (by kernel_rfl) (by kernel_rfl) (by rw [tyR_len, hfl]; exact hG4.t) (tyR_hd _) (by simp [Ty.len]) (by simp only [tyR_len, hfl, List.length_singleton]; omega) (by simp only [tyR_len, hfl, List.length_singleton]; omega)
     have hrow : tyR oi ++ stripRows [y.cs] = tyR (oi ++ [y]) := by rw [tyR_app]; simp [stripRows, Ty.stp, tyR]
     rw [hrow] at hap
     obtain ⟨g1, g2, g3⟩ := hG4.next hS4 hl4 t1 t2 t3 t4
     rw [tyR_len, hfl, List.length_singleton] at g1
     refine J.cw (CW.region ?_)
     simp (maxDischargeDepth := 16) [zY, hy1, Ty.len, Ty.tk, Ty.put, hap]
     refine hK5 _ _ ?_
     refine J.cw (CW.region ?_)
     simp (maxDischargeDepth := 16) [zY, wrap_succ (show i ≤ 1000000000000 by omega)]
     refine hR2 _ _ ⟨(i + 1, tok', σ5), _, _, rfl, ?_, rfl, ⟨hlt, ?_, ?_, by simpa using g1⟩, show rs.length - (i + 1) < rs.length - i by omega⟩
     · simp only [hft]
       simp [sub, lk]
     · show S9 q (foldR (renY NFp lp) up (rs.take (i + 1))).2 σ5
       rw [hft]; exact g2
     · exact hF14.trans g3 fun p hp => .inr (hG4.o p hp).2
   · obtain rfl : i = rs.length := by omega
     rw [List.take_length] at hS ⊢
     refine JD.seqK fun K hK => J.cw (CW.region ?_)
     simp (maxDischargeDepth := 16) [zY, Nat.not_lt.2 hge2]
     refine hK _ _ ?_; clear hK K
     refine JD.cond (t := false) (by simp [zT, zF, lk]) ?_
     refine JD.exit (hR2x _ _ _ (by simp) (hR1 _ _ _ ?_))
     simp only [outOf, if_true]
     refine hKL _ _ ?_
     refine JD.seqK fun K hK => J.cw (CW.region ?_)
     simp (maxDischargeDepth := 16) [zY]
     refine hK _ _ ?_; clear hK K
     exact JD.ret (hR0 _ _ _ ⟨.tup [.sl (prmR P) tok, .sl (tyR (foldR (renY NFp lp) up rs).1) tok2, .sl (bndR lp.reverse) .no], by simp [zA, omap, zB, zF, lk], ⟨tok, tok2, rfl⟩, hS, hF⟩)
end
section
open Go.RowKit
variable {S : Sp} {N : Nat}
def Es9 (S : Sp) (N : Nat) (xs : List Exp) : Prop :=
 ∀ (q : Q9) (u : List ByteArray) (l : List (ByteArray × ByteArray)) (σ : Sto), S9 q u σ → l.length + (bEs xs).length ≤ 1000000000 → u.length + (bEs xs).length ≤ 1000000000 → (∀ s ∈ bEs xs, s.size ≤ 1000000000) →
  JC Tryz.prog (S.E N) 78 [.ptr q.rid 0, .sl (bndR l) .no, .sl (expR xs) .no] σ fun r σ' => r = .ret (.sl (expR (renEs NFp l.reverse u xs).1) .no) ∧ S9 q (renEs NFp l.reverse u xs).2 σ' ∧ F9 q nV σ σ'
theorem exprs9_j (H : H9K S) (xs : List Exp) (hxs : xs.length ≤ 1000000000) (hx : ∀ x ∈ xs, K9 S N 46 Exp.cs (renE NFp) bE x) : Es9 S N xs := by
 intro q u l σ h hl hu hb
 rw [renEs_f]
 rw [bEs_f] at hl hu hb
 have hbl : ∀ u x, (renE NFp l.reverse u x).2.length = u.length + (bE x).length := fun u x => (anew_E l.reverse u x).len
 refine J.callNrm (R := fun r σ' => (∃ tok, r = .ret (.sl (expR (foldR (renE NFp l.reverse) u xs).1) tok)) ∧ S9 q (foldR (renE NFp l.reverse) u xs).2 σ' ∧ F9 q nV σ σ') ?_ (fun v σ' h => ?_) (fun v σ' h => by obtain ⟨⟨tok, e⟩, _⟩ := h; cases e)
 rotate_left
 · obtain ⟨⟨tok, e⟩, h2⟩ := h
   cases e
   exact ⟨by simp only [AV.nrm, expR_nrm], h2⟩
 simp only [nrmR, AV.nrm, expR_nrm, bndR_nrm]
 refine JC.startG (fn := Tryz.f78) (codeOf H.code Tryz.func78 rfl (by kernel_rfl)) rfl H.es rfl (zL rfl) fun tm => ?_
 refine JD.hide fun R0 hR0 => ?_
 refine JD.seqK fun K hK => J.cw (CW.region ?_)
 simp (maxDischargeDepth := 16) [zY]
 refine hK _ _ ?_; clear hK K
 refine JD.seqK fun K hK => J.cw (CW.region ?_)
 simp (maxDischargeDepth := 16) [zY]
 refine hK _ _ ?_; clear hK K
 refine JD.seqK fun KL hKL => ?_
 refine JD.seqK fun K hK => J.cw (CW.region ?_)
 simp (maxDischargeDepth := 16) [zY]
 refine hK _ _ ?_; clear hK K
 refine JD.block (JD.hide fun R1 hR1 => ?_)
 refine JD.loopF (fun p : Nat × Tok × Sto => [(0, .ptr q.rid 0), (1, .sl (bndR l) .no), (2, .sl (expR xs) .no), (7, .sl (expR (foldR (renE NFp l.reverse) u (xs.take p.1)).1) p.2.1), (8, intV p.1)]) (fun p => p.2.2) (fun p => p.1 ≤ xs.length ∧ S9 q (foldR (renE NFp l.reverse) u (xs.take p.1)).2 p.2.2 ∧ F9 q nV σ p.2.2 ∧ G9 q σ p.2.2 (p.1 * 11) 49 p.2.1) (fun p => xs.length - p.1) (0, .full, σ) (by simp [sub, lk, foldR, expR]) rfl ⟨by simp, by simpa [foldR] using h, F9.refl _ _ _, by simpa using G9.nil q σ σ 49⟩ ?_
 rintro ⟨i, tok2, σ2⟩ tm ⟨hi, hS, hF, hG⟩ R2 hR2 hR2x
 dsimp only at hi hS hF hG hR2 ⊢
 refine JD.seqK fun K3 hK3 => ?_
 rcases Nat.lt_or_ge i xs.length with hlt | hge2
 · have ha := expR_get hlt
   have hft := foldR_take (renE NFp l.reverse) u hlt
   have hfl : (foldR (renE NFp l.reverse) u (xs.take i)).1.length = i := by rw [foldR_len]; exact List.length_take_of_le hi
   obtain ⟨hle, hmem⟩ := foldR_le hbl u hlt
   have hbs : (bE xs[i]).length ≤ (xs.flatMap bE).length := by have := (flat_take (b := bE) hlt).2; omega
   have hone := hx _ (List.getElem_mem hlt)
   refine JD.seqK fun K hK => J.cw (CW.region ?_)
   simp (maxDischargeDepth := 16) [zY, hlt]
   refine hK _ _ ?_; clear hK K
   refine JD.cond (t := true) (by simp [zT, zF, lk]) ?_
   refine JD.skip (hK3 _ _ ?_)
   refine JD.keep [0, 1, 2, 7, 8] fun tm => ?_
   simp only [sel, List.contains_cons, List.contains_nil, Bool.or_false, Nat.reduceBEq, Bool.false_eq_true, if_false, if_true, Bool.or_true, Bool.true_or]
   refine JD.seqK fun K5 hK5 => JD.block ?_
   generalize xs[i] = x at *
   generalize hui : (foldR (renE NFp l.reverse) u (xs.take i)).2 = ui at *
   generalize hoi : (foldR (renE NFp l.reverse) u (xs.take i)).1 = oi at *
   refine JD.seqK fun K hK => JD.region ?_
   simp (maxDischargeDepth := 16) [zY, symL, ha, Exp.len, Exp.tk]
   refine (hone q ui l σ2 hS (by omega) (by omega) (fun s hs => hb s (hmem s hs))).mono ?_
   rintro r σ3 ⟨rfl, hS3, hF3⟩
   have hG3 := hG.keep hF3 fun p h => h.elim
   generalize hy : (renE NFp l.reverse ui x).1 = y at *
   generalize (renE NFp l.reverse ui x).2 = uy at *
   have hS4 := hS3.app [AObj.cells y.cs 49]
   have hF4 := hS3.frA nV [AObj.cells y.cs 49]
   have hG4 := hG3.keep hF4 fun p h => h.elim
   have hy1 : (σ3 ++ [AObj.cells y.cs 49])[σ3.length]? = some (AObj.cells y.cs 49) := by simp
   have hF14 := (hF.trans0 hF3).trans0 hF4
   have hl4 := hF14.len
   simp (maxDischargeDepth := 16) [zY, symL, Exp.len, Exp.tk, Exp.put, set_last]
   refine hK _ _ ?_; clear hK K
   generalize hσ4 : σ3 ++ [AObj.cells y.cs 49] = σ4 at *
   obtain ⟨tok', σ5, acc, t1, t2, t3, t4, hap⟩ := app_own (P := Tryz.prog) (M := []) (σ := σ4) (t := 47) (e := 49) (k := 10) (by_ := 184) (es := expR oi) (fs := [y.cs]) (by kernel_rfl) (by kernel_rfl) (by kernel_rfl) (by kernel_rfl) (by rw [expR_len, hfl]; exact hG4.t) (expR_hd _) (by simp [Exp.len]) (by simp only [expR_len, hfl, List.length_singleton]; omega) (by simp only [expR_len, hfl, List.length_singleton]; omega)
   have hrow : expR oi ++ stripRows [y.cs] = expR (oi ++ [y]) := by rw [expR_app]; simp [stripRows, Exp.stp, expR]
   rw [hrow] at hap
   obtain ⟨g1, g2, g3⟩ := hG4.next hS4 hl4 t1 t2 t3 t4
   rw [expR_len, hfl, List.length_singleton] at g1
   refine J.cw (CW.region ?_)
   simp (maxDischargeDepth := 16) [zY, hy1, Exp.len, Exp.tk, Exp.put, hap]
   refine hK5 _ _ ?_
   refine J.cw (CW.region ?_)
   simp (maxDischargeDepth := 16) [zY, wrap_succ (show i ≤ 1000000000000 by omega)]
   refine hR2 _ _ ⟨(i + 1, tok', σ5), _, _, rfl, ?_, rfl, ⟨hlt, ?_, ?_, by simpa using g1⟩, show xs.length - (i + 1) < xs.length - i by omega⟩
   · simp only [hft]
     simp [sub, lk]
   · show S9 q (foldR (renE NFp l.reverse) u (xs.take (i + 1))).2 σ5
     rw [hft]; exact g2
   · exact hF14.trans g3 fun p hp => .inr (hG4.o p hp).2
 · obtain rfl : i = xs.length := by omega
   rw [List.take_length] at hS ⊢
   refine JD.seqK fun K hK => J.cw (CW.region ?_)
   simp (maxDischargeDepth := 16) [zY, Nat.not_lt.2 hge2]
   refine hK _ _ ?_; clear hK K
   refine JD.cond (t := false) (by simp [zT, zF, lk]) ?_
   refine JD.exit (hR2x _ _ _ (by simp) (hR1 _ _ _ ?_))
   simp only [outOf, if_true]
   refine hKL _ _ ?_
   refine JD.seqK fun K hK => J.cw (CW.region ?_)
   simp (maxDischargeDepth := 16) [zY]
   refine hK _ _ ?_; clear hK K
   exact JD.ret (hR0 _ _ _ ⟨.sl (expR (foldR (renE NFp l.reverse) u xs).1) tok2, by simp [zA, omap, zB, zF, lk], ⟨tok2, rfl⟩, hS, hF⟩)
end
section
open Go.RowKit
variable {S : Sp} {N : Nat}
structure W9 (q : Q9) (u : List ByteArray) (σ σ1 : Sto) (P : Nat) (T : TypeId) (bx vs : List AV) (n : Nat) : Prop where
 s : S9 q u σ1
 f : F9 q nV σ σ1
 l : σ.length = P
 n0 : ¬ O9 q σ1 P
 n1 : ¬ O9 q σ1 (P + 1)
 n2 : ¬ O9 q σ1 (P + 2)
 a0 : σ1[P]? = some (.cells bx T)
 a1 : ∃ z, σ1[P + 1]? = some (.cells z T) ∧ z.length = n
 a2 : σ1[P + 2]? = some (.cells vs T)
abbrev K9t (q : Q9) (P : Nat) (σ1 : Sto) (m : Nat) (e : TypeId) (tok : Tok) : Prop := G9 q (List.replicate (P + 3) .dead) σ1 m e tok
section
variable {q : Q9} {u u' : List ByteArray} {σ σ1 σ2 : Sto} {P n m : Nat} {T e : TypeId} {bx vs ws : List AV} {tok : Tok}
theorem W9.lt (h : W9 q u σ σ1 P T bx vs n) : P + 2 < σ1.length := (List.getElem?_eq_some_iff.1 h.a2).1
theorem W9.put (h : W9 q u σ σ1 P T bx vs n) (ws : List AV) : W9 q u σ (σ1.set (P + 2) (.cells ws T)) P T bx ws n := by
 have l2 := h.lt
 have g := h.s.frS (V := fun p => P ≤ p) h.n2 (.inl (by show P ≤ P + 2; omega)) (.cells ws T)
 have hl := h.l
 exact { s := h.s.set h.n2 _, f := h.f.trans g fun p hp => .inr (by omega), l := h.l, n0 := g.not h.n0 (by omega), n1 := g.not h.n1 (by omega), n2 := g.not h.n2 l2, a0 := by rw [List.getElem?_set_ne (by omega)]; exact h.a0, a1 := by rw [List.getElem?_set_ne (by omega)]; exact h.a1, a2 := List.getElem?_set_self l2 }
theorem W9.putK (h : W9 q u σ σ1 P T bx vs n) (ws : List AV) (k : K9t q P σ1 m e tok) : K9t q P (σ1.set (P + 2) (.cells ws T)) m e tok :=
 k.keep (h.s.frS (V := fun p => p = P + 2) h.n2 (.inl rfl) (.cells ws T)) fun p hp hk => by
  subst hp
  have := (k.o _ hk).2
  rw [List.length_replicate] at this
  omega
theorem W9.go (h : W9 q u σ σ1 P T bx vs n) {V : Nat → Prop} (hs : S9 q u' σ2) (hf : F9 q V σ1 σ2) (hV : ∀ p, V p → P + 2 < p) : W9 q u' σ σ2 P T bx vs n := by
 have l2 := h.lt
 have hl := h.l
 obtain ⟨z, z1, z2⟩ := h.a1
 exact { s := hs, f := h.f.trans hf fun p hp => .inr (by have := hV p hp; omega), l := h.l, n0 := hf.not h.n0 (by omega), n1 := hf.not h.n1 (by omega), n2 := hf.not h.n2 l2, a0 := hf.get h.n0 (fun v => by have := hV _ v; omega) h.a0, a1 := ⟨z, hf.get h.n1 (fun v => by have := hV _ v; omega) z1, z2⟩, a2 := hf.get h.n2 (fun v => by have := hV _ v; omega) h.a2 }
theorem K9t.gt (k : K9t q P σ1 m e tok) {p : Nat} (hp : tok = .own p) : P + 2 < p := by
 have := (k.o p hp).2
 rw [List.length_replicate] at this
 omega
theorem K9t.nil (q : Q9) (P : Nat) (σ1 : Sto) (e : TypeId) : K9t q P σ1 0 e .full := G9.nil _ _ _ _
theorem W9.app (h : W9 q u σ σ1 P T bx vs n) (l : Sto) : W9 q u σ (σ1 ++ l) P T bx vs n := h.go (h.s.app l) (h.s.frA nV l) fun p hp => hp.elim
theorem W9.appK (h : W9 q u σ σ1 P T bx vs n) (l : Sto) (k : K9t q P σ1 m e tok) : K9t q P (σ1 ++ l) m e tok := k.keep (h.s.frA nV l) fun p hp => hp.elim
end
theorem len7 {z : List AV} (h : z.length = 7) : ∃ a b c d e f g, z = [a, b, c, d, e, f, g] := by
 match z, h with
 | [a, b, c, d, e, f, g], _ => exact ⟨a, b, c, d, e, f, g, rfl⟩
noncomputable abbrev rhs9B : Code := Tryz.f77.body.getD .skip
theorem rhs9_7 (H : H9K S) {q : Q9} {u : List ByteArray} {σ σ1 : Sto} {P : Nat} {c0 c1 c2 c3 c4 c5 va vp vr ve vk vn : AV} {ts : List Trm} {l : List (ByteArray × ByteArray)} (h : W9 q u σ σ1 P 52 [c0, c1, c2, c3, c4, c5, .sl (trmR ts) .no] [vk, vn, va, vp, vr, ve, .sl [] .full] 7) (hl : l.length ≤ 1000000000) (hn : trmN ts ≤ 1000000000) (hN : 16 * trmN ts + 4 < N)
    {R0 : AExit → List AV → Sto → Prop} (hR : ∀ fr tm σ' tok, (∀ d, lk 6 fr d = .ptr (P + 1) 0) → σ'[P + 1]? = some (AObj.cells [vk, vn, va, vp, vr, ve, .sl (trmR (renTs l.reverse ts)) tok] 52) → S9 q u σ' → F9 q nV σ σ' → R0 .ret (fm 78 fr tm) σ') (tm : List AV) :
    JD Tryz.prog (S.E N) [] (tailC 7 rhs9B) (fm 78 [(1, .sl (bndR l) .no), (5, .ptr P 0), (6, .ptr (P + 1) 0), (7, .ptr (P + 2) 0)] tm) σ1 R0 := by
 have hlen := trmN_len ts
 refine JD.seqK fun KL hKL => ?_
 refine JD.seqK fun K hK => J.cw (CW.region ?_)
 simp (maxDischargeDepth := 16) [zY]
 refine hK _ _ ?_; clear hK K
 refine JD.block (JD.hide fun R1 hR1 => ?_)
 refine JD.loopF (fun p : Nat × Tok × Sto => [(1, .sl (bndR l) .no), (5, .ptr P 0), (6, .ptr (P + 1) 0), (7, .ptr (P + 2) 0), (12, intV p.1)]) (fun p => p.2.2) (fun p => p.1 ≤ ts.length ∧ W9 q u σ p.2.2 P 52 [c0, c1, c2, c3, c4, c5, .sl (trmR ts) .no] [vk, vn, va, vp, vr, ve, .sl (trmR (renTs l.reverse (ts.take p.1))) p.2.1] 7 ∧ K9t q P p.2.2 (p.1 * 5) 30 p.2.1) (fun p => ts.length - p.1) (0, .full, σ1) (by simp [sub, lk]) rfl ⟨by simp, by simpa [renTs, trmR] using h, by simpa using K9t.nil q P σ1 30⟩ ?_
 clear h
 rintro ⟨i, tok, σ2⟩ tm ⟨hi, hH, hT⟩ R2 hR2 hR2x
 dsimp only at hi hH hT hR2 ⊢
 refine JD.seqK fun K3 hK3 => ?_
 have a0 := hH.a0
 rcases Nat.lt_or_ge i ts.length with hlt | hge
 · have ha := trmR_get hlt
   have hgn := trmN_get hlt
   have hrl : (renTs l.reverse (ts.take i)).length = i := by rw [renTs_len, List.length_take_of_le hi]
   have hst : renTs l.reverse (ts.take (i + 1)) = renTs l.reverse (ts.take i) ++ [renT l.reverse ts[i]] := by rw [List.take_succ_eq_append_getElem hlt, renTs_app]; congr 1
   refine JD.seqK fun K hK => J.cw (CW.region ?_)
   simp (maxDischargeDepth := 16) [zY, a0, hlt]
   refine hK _ _ ?_; clear hK K
   refine JD.cond (t := true) (by simp [zT, zF, lk]) ?_
   refine JD.skip (hK3 _ _ ?_)
   refine JD.keep [1, 5, 6, 7, 12] fun tm => ?_
   simp only [sel, List.contains_cons, List.contains_nil, Bool.or_false, Nat.reduceBEq, Bool.false_eq_true, if_false, if_true, Bool.or_true, Bool.true_or]
   refine JD.seqK fun K5 hK5 => JD.block ?_
   have hcall : ∀ (σ2 : Sto) (Q : ARes → Sto → Prop), Q (.ret (.agg (renT l.reverse ts[i]).cs)) σ2 → JC Tryz.prog (S.E N) 112 [.sl (bndR l) .no, .agg ts[i].cs] σ2 Q := fun σ2 Q hq => J.callW (call_sm (l, ts[i]) H.tm term9_inj (by simp only [nrmR, AV.nrm, bndR_nrm, Trm.nrm]) ⟨hl, by dsimp only; omega⟩ (by dsimp only; omega) fun _ => hq)
   have fin : ∀ (y : Trm) (tok' : Tok) (σ5 : Sto) (fr : List (Nat × AV)) (tm : List AV), renTs l.reverse (ts.take (i + 1)) = renTs l.reverse (ts.take i) ++ [y] → W9 q u σ σ5 P 52 [c0, c1, c2, c3, c4, c5, .sl (trmR ts) .no] [vk, vn, va, vp, vr, ve, .sl (trmR (renTs l.reverse (ts.take i) ++ [y])) tok'] 7 → K9t q P σ5 ((i + 1) * 5) 30 tok' → sub [(1, .sl (bndR l) .no), (5, .ptr P 0), (6, .ptr (P + 1) 0), (7, .ptr (P + 2) 0), (12, intV i)] fr → K5 (fm 78 fr tm) σ5 := by
    intro y tok' σ5 fr tm e g1 g2 hfr
    rw [fm_sub hfr]
    refine hK5 _ _ (J.cw (CW.region ?_))
    simp (maxDischargeDepth := 16) [zY, wrap_succ (show i ≤ 1000000000000 by omega)]
    refine hR2 _ _ ⟨(i + 1, tok', σ5), _, _, rfl, by simp [sub, lk], rfl, ⟨hlt, ?_, g2⟩, show ts.length - (i + 1) < ts.length - i by omega⟩
    dsimp only
    rw [e]; exact g1
   clear hR2 hR2x hK5
   replace fin := fun tok' σ5 fr tm => fin (renT l.reverse ts[i]) tok' σ5 fr tm hst
   generalize renT l.reverse ts[i] = y at *
   have htl := ts[i].len
   have htk := ts[i].tk
   generalize ts[i].cs = xc at *
   generalize renTs l.reverse (ts.take i) = oi at *
   have a2 := hH.a2
   obtain ⟨tok', σ5, acc, t1, t2, t3, t4, hap⟩ := app_own (P := Tryz.prog) (M := []) (σ := σ2) (t := 28) (e := 30) (k := 4) (by_ := 80) (es := trmR oi) (fs := [y.cs]) (by kernel_rfl) (by kernel_rfl) (by kernel_rfl) (by kernel_rfl) (by rw [trmR_len, hrl]; exact hT.t) (trmR_hd _) (by simp [Trm.len]) (by simp only [trmR_len, hrl, List.length_singleton]; omega) (by simp only [trmR_len, hrl, List.length_singleton]; omega)
   have hrow : trmR oi ++ stripRows [y.cs] = trmR (oi ++ [y]) := by rw [trmR_app]; simp [stripRows, Trm.stp, trmR]
   rw [hrow] at hap
   obtain ⟨g1, g2, g3⟩ := hT.next hH.s (by rw [List.length_replicate]; exact hH.lt) t1 t2 t3 t4
   rw [trmR_len, hrl, List.length_singleton] at g1
   have hH5 := hH.go g2 g3 fun p hp => hT.gt hp
   have b2 := hH5.a2
   have hH6 := hH5.put [vk, vn, va, vp, vr, ve, .sl (trmR (oi ++ [y])) tok']
   have hK6 := hH5.putK [vk, vn, va, vp, vr, ve, .sl (trmR (oi ++ [y])) tok'] g1
   refine JD.draw1 [0, 1, 2, 3, 4, 5, 6, 7, 8, 9, 10, 11, 12] [8] [P, P + 2] (by simp) [.pure, .reads 1, .pure, .pure, .reads 0, .pure, .pure, .pure, .any, .pure, .any, .pure, .any] [0, 1] (by kernel_rfl) ?_
   simp (maxDischargeDepth := 16) [zY, symD, a0, a2, ha, htl, htk]
   refine hcall _ _ ?_
   simp (maxDischargeDepth := 16) [zY, symD, a0, a2, ha, htl, htk, Trm.len, Trm.tk, Trm.put, all_nil, all_cons, hap, b2]
   refine fin tok' _ _ _ hH6 hK6 ?_
   simp [sub, lk]
 · obtain rfl : i = ts.length := by omega
   rw [List.take_length] at hH
   refine JD.seqK fun K hK => J.cw (CW.region ?_)
   simp (maxDischargeDepth := 16) [zY, a0, Nat.not_lt.2 hge]
   refine hK _ _ ?_; clear hK K
   refine JD.cond (t := false) (by simp [zT, zF, lk]) ?_
   refine JD.exit (hR2x _ _ _ (by simp) (hR1 _ _ _ ?_))
   simp only [outOf, if_true]
   refine hKL _ _ ?_
   clear hKL hR1 hR2x hR2 hK3 R2 R1 KL K3
   obtain ⟨z, z1, z2⟩ := hH.a1
   have a2 := hH.a2
   have l1 := (List.getElem?_eq_some_iff.1 z1).1
   have g := hH.s.frS (V := fun p => P ≤ p) hH.n1 (.inl (by show P ≤ P + 1; omega)) (.cells [vk, vn, va, vp, vr, ve, .sl (trmR (renTs l.reverse ts)) tok] 52)
   have g1 := hH.s.set hH.n1 (.cells [vk, vn, va, vp, vr, ve, .sl (trmR (renTs l.reverse ts)) tok] 52)
   obtain ⟨y0, y1, y2, y3, y4, y5, y6, rfl⟩ := len7 z2
   have hhl := hH.l
   refine JD.seqK fun K hK => J.cw (CW.region ?_)
   simp (maxDischargeDepth := 16) [zY, a2, z1]
   refine hK _ _ ?_
   exact JD.ret (hR _ _ _ tok (fun d => by simp [lk]) (List.getElem?_set_self l1) g1 (hH.f.trans g fun p hp => .inr (by omega)))
end
end Go.Proofs.YteajcnilihgheaaGreatDoor
