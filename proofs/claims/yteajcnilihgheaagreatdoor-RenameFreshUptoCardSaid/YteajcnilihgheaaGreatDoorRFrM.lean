/-
 EV: the statement RenameFresh, walked.
-/
import Derived.Test.YteajcnilihgheaaGreatDoorRnWM
namespace Go.Proofs.YteajcnilihgheaaGreatDoor
set_option maxRecDepth 100000
set_option maxHeartbeats 8000000
set_option linter.unusedSimpArgs false
set_option linter.unusedVariables false
open Go.RowKit
variable {S : Sp} {N : Nat}
theorem Fun.c0 : ∀ (x : Fun) (h : 0 < x.cs.length), x.cs[0]'h = .lit (.string x.nmOf)
 | .mk nm ps (.mk rsfn rsst (.mk rsrfk rsrfnm rsrfng rsrfdg rsrfks) rsps rsrs) (.mk bdk bdnm bdty bdrh (.mk bdamk bdamnm bdamng bdamdg bdamtr) bdar bdbd), _ => rfl
theorem Fun.d11 : ∀ x : Fun, x.cs.drop 11 = x.bdOf.cs
 | .mk nm ps (.mk rsfn rsst (.mk rsrfk rsrfnm rsrfng rsrfdg rsrfks) rsps rsrs) (.mk bdk bdnm bdty bdrh (.mk bdamk bdamnm bdamng bdamdg bdamtr) bdar bdbd) => rfl
structure FrPre (p : List ByteArray × Fun) : Prop where
 u : txtW p.1 ≤ 1048576
 f : p.2.w ≤ 1048576
structure FrW (S : Sp) : Prop where
 g : GrH S
 a : S.sp 13 = some lawakeF
 fr : S.sp 15 = some freshF
 b : S.sp 16 = some bindF
 s : S.sp 17 = some (sameF (fun l => .sl (txtR l) .no) List.length 0)
 c : S.sp 18 = some countF
 l : S.sp 19 = some lfreeF
 m : S.ms 4 = []
theorem cnt_inj (a b : List Exp) (e : [AV.sl (expR a) .no] = [AV.sl (expR b) .no]) : a = b := by
 simp only [List.cons.injEq, AV.sl.injEq, and_true] at e
 exact expR_inj e
theorem new_at {u us nw old : List ByteArray} (an : Anew u us nw old) {i : Nat} (h : i < nw.length) : nw[i] ∉ u ++ nw.take i := by
 intro hm
 rcases List.mem_append.1 hm with hm | hm
 · exact an.2.2.2 _ (List.getElem_mem h) hm
 · have h2 := an.2.2.1
   rw [← List.take_append_drop i nw, List.drop_eq_getElem_cons h, List.nodup_append] at h2
   exact h2.2.2 _ hm _ List.mem_cons_self rfl
theorem lfree_inj (a b : Fun × Fun × List ByteArray) (e : [AV.agg a.1.cs, .agg a.2.1.cs, .sl (txtR a.2.2) .no] = [.agg b.1.cs, .agg b.2.1.cs, .sl (txtR b.2.2) .no]) : a = b := by
 obtain ⟨a1, a2, a3⟩ := a; obtain ⟨b1, b2, b3⟩ := b
 simp only [List.cons.injEq, AV.sl.injEq, AV.agg.injEq, and_true] at e
 rw [Fun.inj e.1, Fun.inj e.2.1, txtR_inj e.2.2]
theorem big1 {N : Nat} (hN : 16 * 10000000000000 + 0 ≤ N) : 160000000000000 ≤ N := by simpa using hN
theorem big2 {N : Nat} (hN : 160000000000000 ≤ N) : 16 * 0 + 0 < N := by omega
theorem big3 {N : Nat} (hN : 160000000000000 ≤ N) : 16 * 1000 + 0 < N := by omega
theorem lt_len {a N : Nat} (h : a ≤ 1000000000) (h2 : 160000000000000 ≤ N) : 16 * a + 0 < N := by omega
theorem free_im (u : List ByteArray) (f : Fun) (h : ∀ x ∈ setL (frE (lamE f)), x ∈ u) : setL (frE (lamE f)) = setL (frE (lamE (renF NFp u f).1)) := by
 have h1 := free_F (F := NFp) u f fun x hx => h x ((mem_free _ _).2 ((lam_free f x).2 hx))
 have : frE (lamE f) = frE (lamE (renF NFp u f).1) := funext fun s => propext ((lam_free f s).trans ((h1 s).symm.trans (lam_free _ s).symm))
 rw [this]
structure FrN (N : Nat) (u us old nw us2 : List ByteArray) (f g h : Fun) : Prop where
 u9 : u.length ≤ 1000000000
 N9 : 160000000000000 ≤ N
 an : Anew u us nw old
 add1 : IntKind.i64.wrap ((u.length : Int) + (old.length : Int)) = (us.length : Int)
 add2 : IntKind.i64.wrap ((us.length : Int) + (nw.length : Int)) = (us2.length : Int)
 le1 : u.length ≤ us.length
 bf : f.n ≤ 1000000000 ∧ old.length ≤ 1000000000
 bg : g.n ≤ 1000000000 ∧ nw.length ≤ 1000000000
 sm : f.sm
 n1 : 16 * f.n + 8 < N
 okf : FreshOk (u, f)
 okg : FreshOk (us, g)
 nf : 16 * f.n + 5 < N
 ng : 16 * g.n + 5 < N
 c1 : cntN [g.bdOf] = cntN [f.bdOf]
 c2 : cntN [h.bdOf] = cntN [f.bdOf]
 nm : g.nmOf = f.nmOf
 wf : expW [f.bdOf] ≤ 1000000000000
 wg : expW [g.bdOf] ≤ 1000000000000
 wh : expW [h.bdOf] ≤ 1000000000000
 vf : 16 * expW [f.bdOf] + 5 < N
 vg : 16 * expW [g.bdOf] + 5 < N
 vh : 16 * expW [h.bdOf] + 5 < N
 l1 : LfPre (f, g, u)
 l2 : LfPre (g, h, us)
 m1 : 16 * ((lamE f).w + (lamE g).w + (lamE f).n) + 11 < N
 m2 : 16 * ((lamE g).w + (lamE h).w + (lamE g).n) + 11 < N
theorem frN {N : Nat} {u us us2 : List ByteArray} {f g h : Fun} (hu : txtW u ≤ 1048576) (hf : f.w ≤ 1048576) (hN : 160000000000000 ≤ N) (hgu : renF NFp u f = (g, us)) (hhu : renF NFp us g = (h, us2)) : FrN N u us (bF f) (bF g) us2 f g h := by
 have hun : u.length ≤ 1048576 := Nat.le_trans (txtW_len u) hu
 have hfn : f.n ≤ 1048576 := Nat.le_trans f.n_leW hf
 have hbl := bl_F f
 have hbn : (bF f).length ≤ 1048576 := Nat.le_trans hbl.1 hf
 have an := anew_F (F := NFp) u f
 have hgw := renF_w u f (by omega)
 have hgc := cnt_F (F := NFp) u f
 have hgn := nm_F (F := NFp) u f
 have hgi := free_im u f
 rw [hgu] at an hgw hgc hgn hgi
 dsimp only at an hgw hgc hgn hgi
 have hgw2 : g.w ≤ 63963136 := by omega
 clear hgw
 have hgl : (bF g).length = (bF f).length := an.2.1
 have hus : us.length = u.length + (bF f).length := an.len
 have an2 := anew_F (F := NFp) us g
 have hhw := renF_w us g (by omega)
 have hhc := cnt_F (F := NFp) us g
 have hhi := free_im us g
 rw [hhu] at an2 hhw hhc hhi
 dsimp only at an2 hhw hhc hhi
 have hhw2 : h.w ≤ 3901751296 := by omega
 clear hhw
 have hus2 : us2.length = us.length + (bF g).length := an2.len
 have hgnw : g.n ≤ 63963136 := Nat.le_trans g.n_leW hgw2
 have hgb := bl_F g
 have hlf : (lamE f).w ≤ 1048579 := by have := lamE_w f; omega
 have hlg : (lamE g).w ≤ 63963139 := by have := lamE_w g; omega
 have hlh : (lamE h).w ≤ 3901751299 := by have := lamE_w h; omega
 have hnf : (lamE f).n ≤ 1048579 := Nat.le_trans (Exp.n_leW _) hlf
 have hng : (lamE g).n ≤ 63963139 := Nat.le_trans (Exp.n_leW _) hlg
 have hbf := Nat.le_trans (bdOf_w f) hf
 have hbg := Nat.le_trans (bdOf_w g) hgw2
 have hbh := Nat.le_trans (bdOf_w h) hhw2
 refine { u9 := by omega, N9 := hN, an := an, add1 := ?_, add2 := ?_, le1 := by omega, bf := ⟨by omega, by omega⟩, bg := ⟨by omega, by omega⟩, sm := f.sm_of (by omega), n1 := by omega, okf := ⟨?_, ?_, fun s hs => Nat.le_trans (hbl.2 s hs) (by show f.w ≤ _; omega)⟩, okg := ⟨?_, ?_, fun s hs => Nat.le_trans (hgb.2 s hs) (by show g.w ≤ _; omega)⟩, nf := by omega, ng := by omega, c1 := hgc, c2 := hhc.trans hgc, nm := hgn, wf := by omega, wg := by omega, wh := by omega, vf := by omega, vg := by omega, vh := by omega, l1 := ⟨?_, ?_, ?_, ?_, hgi⟩, l2 := ⟨?_, ?_, ?_, ?_, hhi⟩, m1 := by omega, m2 := by omega }
 · rw [IntWalk.i64_in _ ⟨by omega, by omega⟩]; omega
 · rw [IntWalk.i64_in _ ⟨by omega, by omega⟩]; omega
 · show f.n ≤ _; omega
 · show u.length + (bF f).length ≤ _; omega
 · show g.n ≤ _; omega
 · show us.length + (bF g).length ≤ _; omega
 · show (lamE f).w ≤ _; omega
 · show (lamE g).w ≤ _; omega
 · show (lamE f).n ≤ _; omega
 · show u.length ≤ _; omega
 · show (lamE g).w ≤ _; omega
 · show (lamE h).w ≤ _; omega
 · show (lamE g).n ≤ _; omega
 · show us.length ≤ _; omega
def sndC : Code → Code
 | .seq _ b => b
 | c => c
def tailC : Nat → Code → Code
 | 0, c => c
 | n + 1, c => tailC n (sndC c)
noncomputable abbrev rfrB : Code := Tryz.f4.body.getD .skip
def Rt (σ : Sto) (R0 : AExit → List AV → Sto → Prop) : Prop := ∀ fr tm σ', (∀ d, lk 4 fr d = .lit (.bool true)) → (∃ τ, σ' = σ ++ τ) → R0 .ret (fm 137 fr tm) σ'
section
variable {u us old nw us2 : List ByteArray} {f g h : Fun} {σ : Sto} {R0 : AExit → List AV → Sto → Prop}
theorem rfr_11 (H : FrW S) (D : FrN N u us old nw us2 f g h) {σ1 : Sto} {P Q V : Nat} (a0 : σ1[P]? = some (AObj.cells f.cs 58)) (a1 : σ1[Q]? = some (AObj.cells g.cs 58)) (a2 : σ1[V]? = some (AObj.cells h.cs 58)) (hex : ∃ τ, σ1 = σ ++ τ) (hR : Rt σ R0) (tm : List AV) :
    CW Tryz.prog (S.E N) [] (tailC 11 rfrB) (fm 137 [(0, .sl (txtR u) .no), (3, .ptr P 0), (5, .ptr Q 0), (6, .sl (txtR us) .no), (12, .ptr V 0)] tm) σ1 R0 := by
 have hl1 : ∀ (args : List AV) (σ2 : Sto) (Q : ARes → Sto → Prop), nrmR args = [.agg f.cs, .agg g.cs, .sl (txtR u) .no] → Q (.ret (.lit (.bool true))) σ2 → CallW Tryz.prog (S.E N) 19 args σ2 Q := fun args σ2 Q ha hq => call_sm (f, g, u) H.l lfree_inj ha D.l1 D.m1 fun _ => hq
 have hl2 : ∀ (args : List AV) (σ2 : Sto) (Q : ARes → Sto → Prop), nrmR args = [.agg g.cs, .agg h.cs, .sl (txtR us) .no] → Q (.ret (.lit (.bool true))) σ2 → CallW Tryz.prog (S.E N) 19 args σ2 Q := fun args σ2 Q ha hq => call_sm (g, h, us) H.l lfree_inj ha D.l2 D.m2 fun _ => hq
 clear D
 refine CW.seqK fun K hK => CW.region ?_
 simp (maxDischargeDepth := 16) [zY, a0, a1, a2, Fun.len, Fun.tk, Fun.put]
 refine CallW.mono (hl1 _ σ1 (fun r σ' => r = .ret (.lit (.bool true)) ∧ σ1 = σ') (by simp only [nrmR, AV.nrm, Fun.nrm, txtR_nrm]) ⟨rfl, rfl⟩) ?_
 rintro r σ' ⟨rfl, rfl⟩
 simp (maxDischargeDepth := 16) [zY, a0, a1, a2, Fun.len, Fun.tk, Fun.put]
 refine CallW.mono (hl2 _ σ1 (fun r σ' => r = .ret (.lit (.bool true)) ∧ σ1 = σ') (by simp only [nrmR, AV.nrm, Fun.nrm, txtR_nrm]) ⟨rfl, rfl⟩) ?_
 rintro r σ' ⟨rfl, rfl⟩
 simp (maxDischargeDepth := 16) [zY]
 refine hK _ _ ?_; clear hK K
 exact CW.ret (hR _ _ _ (fun d => by simp [lk]) hex)
theorem rfr_10 (H : FrW S) (D : FrN N u us old nw us2 f g h) {σ1 : Sto} {P Q V : Nat} (a0 : σ1[P]? = some (AObj.cells f.cs 58)) (a1 : σ1[Q]? = some (AObj.cells g.cs 58)) (a2 : σ1[V]? = some (AObj.cells h.cs 58)) (h1 : P ≠ Q) (h2 : P ≠ V) (h3 : Q ≠ V) (hex : ∃ τ, σ1 = σ ++ τ) (hR : Rt σ R0) (tm : List AV) :
    CW Tryz.prog (S.E N) [] (tailC 10 rfrB) (fm 137 [(0, .sl (txtR u) .no), (3, .ptr P 0), (5, .ptr Q 0), (6, .sl (txtR us) .no), (8, .sl (txtR nw) .no), (12, .ptr V 0), (13, .sl (txtR us2) .no)] tm) σ1 R0 := by
 have cc : ∀ (a : Exp) (args : List AV) (σ2 : Sto) (Q : ARes → Sto → Prop), expW [a] ≤ 1000000000000 → 16 * expW [a] + 5 < N → nrmR args = [.sl (expR [a]) .no] → (accW (S.E N) 18 args σ2 (.ret (intV (cntN [a] : Nat))) σ2 = .lcalls (fun _ => true) → Q (.ret (intV (cntN [a] : Nat))) σ2) → CallW Tryz.prog (S.E N) 18 args σ2 Q := fun a args σ2 Q h1 h2 ha hq => call_sm [a] H.c cnt_inj ha h1 h2 hq
 have hadd := D.add2
 refine CW.seqK fun K hK => CW.seqK fun K2 hK2 => CW.draw (by kernel_rfl) ?_
 simp (maxDischargeDepth := 16) [zY, hadd, a0, a1, a2, Fun.len, Fun.tk, Fun.put, Fun.d11, Exp.len, Exp.tk, Exp.put]
 refine cc g.bdOf _ _ _ D.wg D.vg (by simp [nrmR, AV.nrm, nrmRR, Exp.nrm, expR]) fun hac => ?_
 simp (maxDischargeDepth := 16) [zY, hac, hadd, a0, a1, a2, Fun.len, Fun.tk, Fun.put, Fun.d11, Exp.len, Exp.tk, Exp.put]
 refine cc f.bdOf _ _ _ D.wf D.vf (by simp [nrmR, AV.nrm, nrmRR, Exp.nrm, expR]) fun hac => ?_
 have hc := D.c1
 simp (maxDischargeDepth := 16) [zY, hac, hc, hadd, a0, a1, a2, Fun.len, Fun.tk, Fun.put, Fun.d11, Exp.len, Exp.tk, Exp.put]
 refine cc h.bdOf _ _ _ D.wh D.vh (by simp [nrmR, AV.nrm, nrmRR, Exp.nrm, expR]) fun hac => ?_
 simp (maxDischargeDepth := 16) [zY, hac, hadd, a0, a1, a2, Fun.len, Fun.tk, Fun.put, Fun.d11, Exp.len, Exp.tk, Exp.put]
 refine cc f.bdOf _ _ _ D.wf D.vf (by simp [nrmR, AV.nrm, nrmRR, Exp.nrm, expR]) fun hac => ?_
 have hc2 := D.c2
 simp (maxDischargeDepth := 16) [zY, hac, hc2]
 refine ⟨drawOk_sim [P, Q, V] [.pure, .pure, .pure, .pure, .pure, .pure, .pure, .pure, .pure, .pure, .reads 1, .pure, .lcalls (fun _ => true), .pure, .reads 0, .pure, .lcalls (fun _ => true), .pure, .pure, .pure, .pure, .reads 2, .pure, .lcalls (fun _ => true), .pure, .reads 0, .pure, .lcalls (fun _ => true), .pure, .pure] (.cons (by simp [h1, h2]) (.cons (by simp [h3]) (.cons (by simp) .nil))) (.cons .pure (.cons .pure (.cons .pure (.cons .pure (.cons .pure (.cons .pure (.cons .pure (.cons .pure (.cons .pure (.cons .pure (.cons (.reads 1 _ rfl) (.cons .pure (.cons (.lcalls _ _ fun i a ha hi => rfl) (.cons .pure (.cons (.reads 0 _ rfl) (.cons .pure (.cons (.lcalls _ _ fun i a ha hi => rfl) (.cons .pure (.cons .pure (.cons .pure (.cons .pure (.cons (.reads 2 _ rfl) (.cons .pure (.cons (.lcalls _ _ fun i a ha hi => rfl) (.cons .pure (.cons (.reads 0 _ rfl) (.cons .pure (.cons (.lcalls _ _ fun i a ha hi => rfl) (.cons .pure (.cons .pure .nil)))))))))))))))))))))))))))))) (by kernel_rfl), hK2 _ _ ?_⟩; clear hK2 K2
 refine CW.cond (t := false) (by simp [zT, zF, lk]) ?_
 refine CW.skip (hK _ _ ?_); clear hK K
 refine CW.keep [0, 3, 5, 6, 12] fun tm => ?_
 simp only [sel, List.contains_cons, List.contains_nil, Bool.or_false, Nat.reduceBEq, Bool.false_eq_true, if_false, if_true, Bool.or_true, Bool.true_or]
 exact rfr_11 H D a0 a1 a2 hex hR _
theorem rfr_9 (H : FrW S) (D : FrN N u us old nw us2 f g h) (hhu : renF NFp us g = (h, us2)) {σ1 : Sto} {P Q : Nat} (a0 : σ1[P]? = some (AObj.cells f.cs 58)) (a1 : σ1[Q]? = some (AObj.cells g.cs 58)) (h1 : P ≠ Q) (hex : ∃ τ, σ1 = σ ++ τ) (hR : Rt σ R0) (tm : List AV) :
    CW Tryz.prog (S.E N) [] (tailC 9 rfrB) (fm 137 [(0, .sl (txtR u) .no), (3, .ptr P 0), (5, .ptr Q 0), (6, .sl (txtR us) .no), (8, .sl (txtR nw) .no)] tm) σ1 R0 := by
 have hfr2 : ∀ (args : List AV) (σ : Sto) (Q : ARes → Sto → Prop), nrmR args = [.sl (txtR us) .no, .agg g.cs] → Q (.ret (.tup [.agg h.cs, .sl (txtR us2) .no])) σ → CallW Tryz.prog (S.E N) 15 args σ Q := fun args σ Q ha hq => call_sm (us, g) H.fr fresh_inj ha D.okg D.ng fun _ => by rw [hhu]; exact hq
 have l0 := (List.getElem?_eq_some_iff.1 a0).1
 have l1 := (List.getElem?_eq_some_iff.1 a1).1
 have next := fun (tm : List AV) => rfr_10 (σ1 := σ1 ++ [AObj.cells h.cs 58]) H D ((st_old l0).trans a0) ((st_old l1).trans a1) (by simp) h1 (Nat.ne_of_lt l0) (Nat.ne_of_lt l1) (by obtain ⟨τ, e⟩ := hex; exact ⟨τ ++ [AObj.cells h.cs 58], by rw [e, List.append_assoc]⟩) hR tm
 clear D hex hR h1 l0 l1
 refine CW.seqK fun K hK => CW.region ?_
 simp (maxDischargeDepth := 16) [zY, a1, Fun.len, Fun.tk, Fun.put]
 refine CallW.mono (hfr2 _ σ1 (fun r σ' => r = .ret (.tup [.agg h.cs, .sl (txtR us2) .no]) ∧ σ1 = σ') (by simp only [nrmR, AV.nrm, Fun.nrm, txtR_nrm]) ⟨rfl, rfl⟩) ?_
 rintro r σ' ⟨rfl, rfl⟩
 simp (maxDischargeDepth := 16) [zY, Fun.len, Fun.tk, Fun.put]
 refine hK _ _ ?_; clear hK K
 refine CW.keep [0, 3, 5, 6, 8, 12, 13] fun tm => ?_
 simp only [sel, List.contains_cons, List.contains_nil, Bool.or_false, Nat.reduceBEq, Bool.false_eq_true, if_false, if_true, Bool.or_true, Bool.true_or]
 exact next _
theorem rfr_8 (H : FrW S) (D : FrN N u us old nw us2 f g h) (hhu : renF NFp us g = (h, us2)) {σd : Sto} {P Q V : Nat} (d0 : σd[P]? = some (AObj.cells f.cs 58)) (d1 : σd[Q]? = some (AObj.cells g.cs 58)) (hV : V < σd.length) (h1 : P ≠ Q) (h2 : V ≠ P) (h3 : V ≠ Q) (hexd : ∀ o, ∃ τ, σd.set V o = σ ++ τ) (hR : Rt σ R0) {is : List (Value × AV)} (hk : isOk u is) (tm : List AV) :
    CW Tryz.prog (S.E N) [] (tailC 8 rfrB) (fm 137 [(0, .sl (txtR u) .no), (3, .ptr P 0), (5, .ptr Q 0), (6, .sl (txtR us) .no), (8, .sl (txtR nw) .no), (9, .mp V)] tm) (σd.set V (.map .str is)) R0 := by
 have hnw9 := D.bg.2
 have hnew : ∀ {i : Nat} (h : i < nw.length), nw[i] ∉ u ++ nw.take i := fun h => new_at D.an h
 have next := fun (is : List (Value × AV)) (tm : List AV) => rfr_9 (σ1 := σd.set V (.map .str is)) H D hhu (by rw [List.getElem?_set_ne h2]; exact d0) (by rw [List.getElem?_set_ne h3]; exact d1) h1 (hexd _) hR tm
 have e2 : ∀ is, (σd.set V (.map .str is))[V]? = some (.map .str is) := fun is => by rw [List.getElem?_set_self hV]
 clear D hR hexd d0 d1 h1 h2 h3 H hhu
 refine CW.seqK fun KL hKL => ?_
 refine CW.seqK fun K hK => CW.region ?_
 simp (maxDischargeDepth := 16) [zY]
 refine hK _ _ ?_; clear hK K
 refine CW.block (CW.hide fun R hR => ?_)
 refine CW.loopF (fun p : Nat × List (Value × AV) => [(0, .sl (txtR u) .no), (3, .ptr P 0), (5, .ptr Q 0), (6, .sl (txtR us) .no), (8, .sl (txtR nw) .no), (9, .mp V), (11, intV p.1)]) (fun p => σd.set V (.map .str p.2)) (fun p => p.1 ≤ nw.length ∧ isOk (u ++ nw.take p.1) p.2) (fun p => nw.length - p.1) (0, is) (by simp [sub, lk]) rfl ⟨by simp, by simpa using hk⟩ ?_
 clear hk
 clear is
 rintro ⟨i, is⟩ tm ⟨hi, hk⟩
 dsimp only at hi hk ⊢
 replace next := next is
 have h2' := e2 is
 have hss : ∀ is', (σd.set V (.map .str is)).set V (.map .str is') = σd.set V (.map .str is') := fun is' => List.set_set ..
 generalize hσ1 : σd.set V (.map .str is) = σ1 at h2' hss next ⊢
 refine CW.hide fun R2 hR2 => CW.seqK fun K3 hK3 => CW.seqK fun K4 hK4 => CW.region ?_
 rcases Nat.lt_or_ge i nw.length with hlt | hge
 · simp (maxDischargeDepth := 16) [zY, hlt]
   refine hK4 _ _ ?_
   refine CW.cond (t := true) (by simp [zT, zF, lk]) ?_
   refine CW.skip (hK3 _ _ ?_)
   refine CW.seqK fun K5 hK5 => CW.block ?_
   have ha := txtR_get hlt
   have hno := hnew hlt
   have htk2 := List.take_succ_eq_append_getElem hlt
   generalize nw[i] = x at ha hno htk2
   have hgx : mapGet (.string x) is = none := by
    rcases hk.2 x with ⟨hx, _⟩ | ⟨_, hx⟩
    · exact absurd hx hno
    · exact hx
   have hg2 : (mapGet (.string x) is).getD (.lit (.bool false)) = .lit (.bool false) := by rw [hgx]; rfl
   have hw : IntKind.i64.wrap ((i : Int) + 1) = ((i + 1 : Nat) : Int) := wrap_succ (show i ≤ 1000000000000 by omega)
   refine CW.seqK fun K7 hK7 => CW.seqK fun K6 hK6 => CW.region ?_
   simp (maxDischargeDepth := 16) [zY, ha, h2', hg2]
   refine hK6 _ _ ?_
   refine CW.cond (t := false) (by simp [zT, zF, lk]) ?_
   refine CW.skip (hK7 _ _ ?_)
   refine CW.region ?_
   simp (maxDischargeDepth := 16) [zY, ha, h2', AV.notTup]
   refine hK5 _ _ ?_
   rw [hss]
   refine CW.region ?_
   simp (maxDischargeDepth := 16) [zY, hw]
   refine hR2 _ _ _ ⟨(i + 1, mapPut (.string x) (.lit (.bool true)) is), _, _, rfl, by simp [sub, lk], rfl, ⟨hlt, ?_⟩, by show nw.length - (i + 1) < nw.length - i; omega⟩
   show isOk (u ++ nw.take (i + 1)) _
   rw [htk2, ← List.append_assoc]
   exact hk.put _
 obtain rfl : i = nw.length := by omega
 simp (maxDischargeDepth := 16) [zY, Nat.not_lt.2 hge]
 refine hK4 _ _ ?_
 refine CW.cond (t := false) (by simp [zT, zF, lk]) ?_
 refine CW.exit (hR2 _ _ _ (hR _ _ _ ?_))
 simp only [outOf, if_true, andThen]
 refine hKL _ _ ?_
 clear hK3 hK4 hR2 hKL hR R2 R KL K3
 refine CW.keep [0, 3, 5, 6, 8] fun tm => ?_
 simp only [sel, List.contains_cons, List.contains_nil, Bool.or_false, Nat.reduceBEq, Bool.false_eq_true, if_false, if_true, Bool.or_true, Bool.true_or]
 exact next _
theorem rfr_7 (H : FrW S) (D : FrN N u us old nw us2 f g h) (hhu : renF NFp us g = (h, us2)) {σd : Sto} {P Q V : Nat} (d0 : σd[P]? = some (AObj.cells f.cs 58)) (d1 : σd[Q]? = some (AObj.cells g.cs 58)) (d2 : σd[V]? = some (.map .str [])) (h1 : P ≠ Q) (h2 : V ≠ P) (h3 : V ≠ Q) (hexd : ∀ o, ∃ τ, σd.set V o = σ ++ τ) (hR : Rt σ R0) (tm : List AV) :
    CW Tryz.prog (S.E N) [] (tailC 7 rfrB) (fm 137 [(0, .sl (txtR u) .no), (3, .ptr P 0), (5, .ptr Q 0), (6, .sl (txtR us) .no), (8, .sl (txtR nw) .no), (9, .mp V)] tm) σd R0 := by
 have hu9 := D.u9
 have hV := (List.getElem?_eq_some_iff.1 d2).1
 have next := fun (is : List (Value × AV)) (hk : isOk u is) (tm : List AV) => rfr_8 (σd := σd) H D hhu d0 d1 hV h1 h2 h3 hexd hR hk tm
 have e2 : ∀ is, (σd.set V (.map .str is))[V]? = some (.map .str is) := fun is => by rw [List.getElem?_set_self hV]
 have hset : σd.set V (.map .str []) = σd := by
  obtain ⟨q, e⟩ := List.getElem?_eq_some_iff.1 d2
  rw [← e, List.set_getElem_self]
 clear D hR hexd d0 d1 d2 h1 h2 h3 H hhu
 refine CW.seqK fun KL hKL => ?_
 refine CW.seqK fun K hK => CW.region ?_
 simp (maxDischargeDepth := 16) [zY]
 refine hK _ _ ?_; clear hK K
 refine CW.block (CW.hide fun R hR => ?_)
 refine CW.loopF (fun p : Nat × List (Value × AV) => [(0, .sl (txtR u) .no), (3, .ptr P 0), (5, .ptr Q 0), (6, .sl (txtR us) .no), (8, .sl (txtR nw) .no), (9, .mp V), (10, intV p.1)]) (fun p => σd.set V (.map .str p.2)) (fun p => p.1 ≤ u.length ∧ isOk (u.take p.1) p.2) (fun p => u.length - p.1) (0, []) (by simp [sub, lk]) hset.symm ⟨by simp, ⟨(by intro p hp; cases hp), fun s => .inr ⟨by simp, rfl⟩⟩⟩ ?_
 rintro ⟨i, is⟩ tm ⟨hi, hk⟩
 dsimp only at hi hk ⊢
 replace next := next is
 have h2' := e2 is
 have hss : ∀ is', (σd.set V (.map .str is)).set V (.map .str is') = σd.set V (.map .str is') := fun is' => List.set_set ..
 generalize hσ1 : σd.set V (.map .str is) = σ1 at h2' hss next ⊢
 refine CW.hide fun R2 hR2 => CW.seqK fun K3 hK3 => CW.seqK fun K4 hK4 => CW.region ?_
 rcases Nat.lt_or_ge i u.length with hlt | hge
 · simp (maxDischargeDepth := 16) [zY, hlt]
   refine hK4 _ _ ?_
   refine CW.cond (t := true) (by simp [zT, zF, lk]) ?_
   refine CW.skip (hK3 _ _ ?_)
   refine CW.seqK fun K5 hK5 => CW.block ?_
   have ha := txtR_get hlt
   have hw : IntKind.i64.wrap ((i : Int) + 1) = ((i + 1 : Nat) : Int) := wrap_succ (show i ≤ 1000000000000 by omega)
   refine CW.region ?_
   simp (maxDischargeDepth := 16) [zY, ha, h2', AV.notTup]
   refine hK5 _ _ ?_
   rw [hss]
   refine CW.region ?_
   simp (maxDischargeDepth := 16) [zY, hw]
   refine hR2 _ _ _ ⟨(i + 1, mapPut (.string u[i]) (.lit (.bool true)) is), _, _, rfl, by simp [sub, lk], rfl, ⟨hlt, ?_⟩, by show u.length - (i + 1) < u.length - i; omega⟩
   show isOk (u.take (i + 1)) _
   rw [List.take_succ_eq_append_getElem hlt]
   exact hk.put _
 obtain rfl : i = u.length := by omega
 rw [List.take_length] at hk
 simp (maxDischargeDepth := 16) [zY, Nat.not_lt.2 hge]
 refine hK4 _ _ ?_
 refine CW.cond (t := false) (by simp [zT, zF, lk]) ?_
 refine CW.exit (hR2 _ _ _ (hR _ _ _ ?_))
 simp only [outOf, if_true, andThen]
 refine hKL _ _ ?_
 clear hK3 hK4 hR2 hKL hR R2 R KL K3
 refine CW.keep [0, 3, 5, 6, 8, 9] fun tm => ?_
 simp only [sel, List.contains_cons, List.contains_nil, Bool.or_false, Nat.reduceBEq, Bool.false_eq_true, if_false, if_true, Bool.or_true, Bool.true_or]
 exact next hk _
theorem rfr_6 (H : FrW S) (D : FrN N u us old nw us2 f g h) (hhu : renF NFp us g = (h, us2)) {σc : Sto} {P Q : Nat} (a0 : σc[P]? = some (AObj.cells f.cs 58)) (a1 : σc[Q]? = some (AObj.cells g.cs 58)) (h1 : P ≠ Q) (hex : ∃ τ, σc = σ ++ τ) (hR : Rt σ R0) (tm : List AV) :
    CW Tryz.prog (S.E N) [] (tailC 6 rfrB) (fm 137 [(0, .sl (txtR u) .no), (3, .ptr P 0), (5, .ptr Q 0), (6, .sl (txtR us) .no), (8, .sl (txtR nw) .no)] tm) σc R0 := by
 have mk2 := fun (ρ : Operand → Option AV) (σ : Sto) (ds : Option Tmp) (ty : TypeId) (po : String) (af : Array Edge) (gu : Option (Nat × Bool)) => es_mk (P := Tryz.prog) (M := []) (ρ := ρ) (σ := σ) (t := 66) (kt := 9) (e := 4) (q := .str) (ds := ds) (ty := ty) (po := po) (af := af) (gu := gu) (by kernel_rfl) (by kernel_rfl)
 have l0 := (List.getElem?_eq_some_iff.1 a0).1
 have l1 := (List.getElem?_eq_some_iff.1 a1).1
 have next := fun (tm : List AV) => rfr_7 (σd := σc ++ [AObj.map .str []]) (V := σc.length) H D hhu ((st_old l0).trans a0) ((st_old l1).trans a1) (by simp) h1 (Nat.ne_of_gt l0) (Nat.ne_of_gt l1) (fun o => by obtain ⟨τ, e⟩ := hex; exact ⟨τ ++ [o], by rw [st_set0 rfl, e, List.append_assoc]; rfl⟩) hR tm
 clear D hR hex a0 a1 h1 H hhu l0 l1
 refine CW.seqK fun K hK => CW.region ?_
 simp (maxDischargeDepth := 16) [zY, mk2]
 refine hK _ _ ?_; clear hK K
 clear mk2
 refine CW.keep [0, 3, 5, 6, 8, 9] fun tm => ?_
 simp only [sel, List.contains_cons, List.contains_nil, Bool.or_false, Nat.reduceBEq, Bool.false_eq_true, if_false, if_true, Bool.or_true, Bool.true_or]
 exact next _
theorem rfr_5 (H : FrW S) (D : FrN N u us old nw us2 f g h) (hhu : renF NFp us g = (h, us2)) {σc : Sto} {P Q : Nat} (a0 : σc[P]? = some (AObj.cells f.cs 58)) (a1 : σc[Q]? = some (AObj.cells g.cs 58)) (h1 : P ≠ Q) (hex : ∃ τ, σc = σ ++ τ) (hR : Rt σ R0) (tm : List AV) :
    CW Tryz.prog (S.E N) [] (tailC 5 rfrB) (fm 137 [(0, .sl (txtR u) .no), (3, .ptr P 0), (5, .ptr Q 0), (6, .sl (txtR us) .no), (7, .sl (txtR old) .no), (8, .sl (txtR nw) .no)] tm) σc R0 := by
 have hsame : ∀ (l : List ByteArray) (args : List AV) (σ : Sto) (Q : ARes → Sto → Prop), l.length ≤ 1000000000 → nrmR args = [.sl (txtR l) .no, .sl (txtR l) .no] → Q (.ret (.lit (.bool true))) σ → CallW Tryz.prog (S.E N) 17 args σ Q := fun l args σ Q h1 ha hq => call_same l l H.s (sl_inj txtR_inj) ha h1 (lt_len h1 D.N9) fun _ => by rw [eqb_self]; exact hq
 have next := fun (tm : List AV) => rfr_6 (σc := σc) H D hhu a0 a1 h1 hex hR tm
 have hadd := D.add1
 have hs1 := fun (args : List AV) ha => hsame u args σc (fun r σ' => r = .ret (.lit (.bool true)) ∧ σc = σ') D.u9 ha ⟨rfl, rfl⟩
 have hs2 := fun (args : List AV) ha => hsame nw args σc (fun r σ' => r = .ret (.lit (.bool true)) ∧ σc = σ') D.bg.2 ha ⟨rfl, rfl⟩
 have hgn := D.nm
 have an := D.an
 have htk : (txtR us).take u.length = txtR u := by rw [an.1, txtR_app, List.take_left' (by simp)]
 have htu : (txtR us).take us.length = txtR us := by rw [← txtR_len us, List.take_length]
 have hdr : (txtR us).drop u.length = txtR nw := by rw [an.1, txtR_app, List.drop_left' (by simp)]
 have hle : ((u.length : Int) ≤ (us.length : Int)) = True := eq_true (Int.ofNat_le.2 D.le1)
 have h0u : ((0 : Int) ≤ (u.length : Int)) = True := eq_true (Int.natCast_nonneg _)
 have hle' : (u.length ≤ us.length) = True := eq_true D.le1
 clear D H an hex hR hsame hhu h1
 refine CW.seqK fun K hK => CW.seqK fun K2 hK2 => CW.region ?_
 simp (maxDischargeDepth := 16) [zY, hadd, htk, htu, hdr, hle, hle', h0u, txtR_hd, sliceTok, a0, a1, Fun.len, Fun.tk, Fun.put]
 refine CallW.mono (hs1 _ (by simp only [nrmR, AV.nrm, txtR_nrm])) ?_
 rintro r σ' ⟨rfl, rfl⟩
 simp (maxDischargeDepth := 16) [zY, hadd, htk, htu, hdr, hle, hle', h0u, txtR_hd, sliceTok, a0, a1, Fun.len, Fun.tk, Fun.put]
 refine CallW.mono (hs2 _ (by simp only [nrmR, AV.nrm, txtR_nrm])) ?_
 rintro r σ' ⟨rfl, rfl⟩
 clear hadd htk htu hdr hle hle' h0u hs1 hs2
 simp (maxDischargeDepth := 16) [zY, a0, a1, Fun.len, Fun.tk, Fun.put, Fun.c0, hgn]
 refine hK2 _ _ ?_; clear hK2 K2
 refine CW.cond (t := false) (by simp [zT, zF, lk]) ?_
 refine CW.skip (hK _ _ ?_); clear hK K
 refine CW.keep [0, 3, 5, 6, 8] fun tm => ?_
 simp only [sel, List.contains_cons, List.contains_nil, Bool.or_false, Nat.reduceBEq, Bool.false_eq_true, if_false, if_true, Bool.or_true, Bool.true_or]
 exact next _
end
theorem fresh_law_w (H : FrW S) : SmOk Tryz.prog S N 4 (fun p : List ByteArray × Fun => [.sl (txtR p.1) .no, .agg p.2.cs]) (fun _ => .lit (.bool true)) FrPre (fun _ => 10000000000000) 0 := by
 rintro ⟨u, f⟩ σ ⟨hu, hf⟩ hN
 dsimp only at hu hf hN ⊢
 refine JC.startF (fn := Tryz.f4) (codeOf H.g.code Tryz.func4 rfl (by kernel_rfl)) rfl H.m rfl (zL rfl) fun tm => ?_
 refine CW.hide fun R0 hR0 => ?_
 have hRt : Rt σ R0 := fun fr tm σ' h4 hex => hR0 _ _ _ ⟨.lit (.bool true), by simp [zA, omap, zB, zF, h4], Fgt.pure hex (Frz.nrm rfl)⟩
 have hN9 := big1 hN
 obtain ⟨g, us, hgu⟩ : ∃ g us, renF NFp u f = (g, us) := ⟨_, _, rfl⟩
 obtain ⟨h, us2, hhu⟩ : ∃ h us2, renF NFp us g = (h, us2) := ⟨_, _, rfl⟩
 have D := frN hu hf hN9 hgu hhu
 clear hu hf hN
 have hN0 := big2 hN9
 have hNa := big3 hN9
 clear hN9
 have hgr := fun σ => great_e (N := N) H.g u .no D.u9 f D.bf.1 D.sm D.n1 σ
 have hfr : ∀ (args : List AV) (σ : Sto) (Q : ARes → Sto → Prop), nrmR args = [.sl (txtR u) .no, .agg f.cs] → Q (.ret (.tup [.agg g.cs, .sl (txtR us) .no])) σ → CallW Tryz.prog (S.E N) 15 args σ Q := fun args σ Q ha hq => call_sm (u, f) H.fr fresh_inj ha D.okf D.nf fun _ => by rw [hgu]; exact hq
 have hsame : ∀ (l : List ByteArray) (args : List AV) (σ : Sto) (Q : ARes → Sto → Prop), l.length ≤ 1000000000 → nrmR args = [.sl (txtR l) .no, .sl (txtR l) .no] → Q (.ret (.lit (.bool true))) σ → CallW Tryz.prog (S.E N) 17 args σ Q := fun l args σ Q h1 ha hq => call_same l l H.s (sl_inj txtR_inj) ha h1 (lt_len h1 D.N9) fun _ => by rw [eqb_self]; exact hq
 clear hgu
 generalize hold : bF f = old at D
 generalize hnw : bF g = nw at D
 refine CW.seqK fun K hK => CW.region ?_
 simp (maxDischargeDepth := 16) [zY, Fun.len, Fun.tk, Fun.put]
 refine hK _ _ ?_; clear hK K
 have g0 : (σ ++ [AObj.cells f.cs 58])[σ.length]? = some (AObj.cells f.cs 58) := by simp
 have hex : ∃ τ, (σ ++ [AObj.cells f.cs 58]) = σ ++ τ := ⟨_, rfl⟩
 have hP := σ.length
 generalize σ ++ [_] = σa at *
 generalize hPe : σ.length = P at *
 refine CW.keep [0, 3] fun tm => ?_
 simp only [sel, List.contains_cons, List.contains_nil, Bool.or_false, Nat.reduceBEq, Bool.false_eq_true, if_false, if_true, Bool.or_true, Bool.true_or]
 refine CW.seqK fun K hK => CW.seqK fun K2 hK2 => CW.region ?_
 simp (maxDischargeDepth := 16) [zY]
 refine call_sm () H.a (fun _ _ _ => rfl) (by simp only [nrmR]) trivial hNa fun _ => ?_
 simp (maxDischargeDepth := 16) [zY]
 refine hK2 _ _ ?_; clear hK2 K2
 refine CW.cond (t := false) (by simp [zT, zF, lk]) ?_
 refine CW.skip (hK _ _ ?_); clear hK K
 refine CW.keep [0, 3] fun tm => ?_
 simp only [sel, List.contains_cons, List.contains_nil, Bool.or_false, Nat.reduceBEq, Bool.false_eq_true, if_false, if_true, Bool.or_true, Bool.true_or]
 refine CW.seqK fun K hK => CW.seqK fun K2 hK2 => CW.region ?_
 simp (maxDischargeDepth := 16) [zY, g0, Fun.len, Fun.tk, Fun.put]
 refine (hgr σa).mono ?_
 rintro r σb ⟨⟨b, rfl⟩, τ, hτ⟩
 have g0b : σb[P]? = some (AObj.cells f.cs 58) := by rw [hτ]; exact (st_old (List.getElem?_eq_some_iff.1 g0).1).trans g0
 have hexb : ∃ τ, σb = σ ++ τ := by obtain ⟨τ0, h0⟩ := hex; exact ⟨τ0 ++ τ, by rw [hτ, h0, List.append_assoc]⟩
 clear hτ τ g0 hex hgr
 simp (maxDischargeDepth := 16) [zY]
 refine hK2 _ _ ?_; clear hK2 K2
 cases b with
 | true =>
  refine CW.cond (t := true) (by simp [zT, zF, lk]) ?_
  refine CW.seqK fun K hK => CW.region ?_
  simp (maxDischargeDepth := 16) [zY]
  refine hK _ _ ?_; clear hK K
  exact CW.ret (hRt _ _ _ (fun d => by simp [lk]) hexb)
 | false =>
  refine CW.cond (t := false) (by simp [zT, zF, lk]) ?_
  refine CW.skip (hK _ _ ?_); clear hK K
  refine CW.keep [0, 3] fun tm => ?_
  simp only [sel, List.contains_cons, List.contains_nil, Bool.or_false, Nat.reduceBEq, Bool.false_eq_true, if_false, if_true, Bool.or_true, Bool.true_or]
  refine CW.seqK fun K hK => CW.region ?_
  simp (maxDischargeDepth := 16) [zY, g0b, Fun.len, Fun.tk, Fun.put]
  refine hfr _ _ _ (by simp only [nrmR, AV.nrm, Fun.nrm, txtR_nrm]) ?_
  simp (maxDischargeDepth := 16) [zY, g0b, Fun.len, Fun.tk, Fun.put]
  refine hK _ _ ?_; clear hK K
  have lb := (List.getElem?_eq_some_iff.1 g0b).1
  have gf : (σb ++ [AObj.cells g.cs 58])[P]? = some (AObj.cells f.cs 58) := (st_old lb).trans g0b
  have gg : (σb ++ [AObj.cells g.cs 58])[σb.length]? = some (AObj.cells g.cs 58) := by simp
  have hexc : ∃ τ, (σb ++ [AObj.cells g.cs 58]) = σ ++ τ := by obtain ⟨τ0, h0⟩ := hexb; exact ⟨τ0 ++ [AObj.cells g.cs 58], by rw [h0, List.append_assoc]⟩
  have hcl : (σb ++ [AObj.cells g.cs 58]).length = σb.length + 1 := by simp
  clear g0b hexb
  generalize σb ++ [_] = σc at *
  generalize σb.length = Q at *
  clear σb
  refine CW.keep [0, 3, 5, 6] fun tm => ?_
  simp only [sel, List.contains_cons, List.contains_nil, Bool.or_false, Nat.reduceBEq, Bool.false_eq_true, if_false, if_true, Bool.or_true, Bool.true_or]
  refine CW.seqK fun K hK => CW.draw (by kernel_rfl) ?_
  simp (maxDischargeDepth := 16) [zY, gf, gg, Fun.len, Fun.tk, Fun.put]
  refine call_sm f H.b fun1_inj (by simp only [nrmR, AV.nrm, Fun.nrm]) (by rw [hold]; exact D.bf) hN0 fun hac => ?_
  rw [hold] at hac ⊢
  simp (maxDischargeDepth := 16) [zY, hac, gf, gg, Fun.len, Fun.tk, Fun.put]
  refine call_sm g H.b fun1_inj (by simp only [nrmR, AV.nrm, Fun.nrm]) (by rw [hnw]; exact D.bg) hN0 fun hac => ?_
  rw [hnw] at hac ⊢
  simp (maxDischargeDepth := 16) [zY, hac, gf, gg, Fun.len, Fun.tk, Fun.put]
  refine ⟨drawOk_sim [P, Q] [.reads 0, .lcalls (fun _ => true), .reads 1, .lcalls (fun _ => true), .pure, .pure] (.cons (by simp only [List.mem_cons, List.not_mem_nil, or_false]; exact Nat.ne_of_lt lb) (.cons (by simp) .nil)) (.cons (.reads 0 _ rfl) (.cons (.lcalls _ _ fun i a ha hi => rfl) (.cons (.reads 1 _ rfl) (.cons (.lcalls _ _ fun i a ha hi => rfl) (.cons .pure (.cons .pure .nil)))))) (by kernel_rfl), hK _ _ ?_⟩; clear hK K
  refine CW.keep [0, 3, 5, 6, 7, 8] fun tm => ?_
  simp only [sel, List.contains_cons, List.contains_nil, Bool.or_false, Nat.reduceBEq, Bool.false_eq_true, if_false, if_true, Bool.or_true, Bool.true_or]
  exact rfr_5 H D hhu gf gg (Nat.ne_of_lt lb) hexc hRt _
noncomputable abbrev frLawF : FS := smF (fun p : List ByteArray × Fun => [.sl (txtR p.1) .no, .agg p.2.cs]) (fun _ => .lit (.bool true)) FrPre (fun _ => 10000000000000) 0
end Go.Proofs.YteajcnilihgheaaGreatDoor
