/-
 EV: the statement RenameScopes, walked: a round of its loops.
-/
import Derived.Test.YteajcnilihgheaaGreatDoorEvBldM
import Derived.Test.YteajcnilihgheaaGreatDoorRLawM
import Derived.Test.YteajcnilihgheaaGreatDoorKSameM
namespace Go.Proofs.YteajcnilihgheaaGreatDoor
set_option maxRecDepth 100000
set_option maxHeartbeats 8000000
set_option linter.unusedSimpArgs false
set_option linter.unusedVariables false
section
open Go.RowKit
def fstC : Code → Code
 | .seq a _ => a
 | c => c
def inC : Code → Code
 | .block _ a => a
 | .loop a => a
 | c => c
noncomputable abbrev scB : Code := Tryz.f3.body.getD .skip
noncomputable abbrev scI : Code := inC (fstC (sndC (inC (inC (sndC (inC (fstC (sndC (inC (inC (sndC (fstC (tailC 2 scB)))))))))))))
structure ScW (S : Sp) : Prop where
 code : S.code = codeP Tryz.prog
 m : S.ms 3 = []
 v : S.sp 7 = some lvF
 i : S.sp 6 = some lintsF
 o : S.sp 9 = some loneF
 r : S.sp 10 = some lretF
 l : S.sp 8 = some lletF
 s : S.sp 11 = some lsameF
 st : S.sp 12 = some stemF
 rp : S.sp 5 = none
 rpb : S.base 5 = some primRepeat
 a : S.sp 13 = some lawakeF
theorem limN0 : limR [] = [] := rfl
theorem lt_0 {N : Nat} (h : 160000000000000 ≤ N) : 16 * 0 + 0 < N := by omega
theorem lt_1 {N : Nat} (h : 160000000000000 ≤ N) : 16 * 0 + 1 < N := by omega
section
variable {S : Sp} {N : Nat} (H : ScW S) (hN : 160000000000000 ≤ N)
include H hN
theorem c_ints (s : ByteArray) (args : List AV) (σ : Sto) (Q : ARes → Sto → Prop) (ha : nrmR args = [.lit (.string s)]) (hq : accW (S.E N) 6 args σ (.ret (.agg (yInts s).cs)) σ = .lcalls (fun _ => true) → Q (.ret (.agg (yInts s).cs)) σ) : CallW Tryz.prog (S.E N) 6 args σ Q := call_sm s H.i lv_inj ha trivial (lt_0 hN) hq
theorem c_v (s : ByteArray) (args : List AV) (σ : Sto) (Q : ARes → Sto → Prop) (ha : nrmR args = [.lit (.string s)]) (hq : accW (S.E N) 7 args σ (.ret (.agg (aV s).cs)) σ = .lcalls (fun _ => true) → Q (.ret (.agg (aV s).cs)) σ) : CallW Tryz.prog (S.E N) 7 args σ Q := call_sm s H.v lv_inj ha trivial (lt_0 hN) hq
theorem c_one (s : ByteArray) (args : List AV) (σ : Sto) (Q : ARes → Sto → Prop) (ha : nrmR args = [.lit (.string s)]) (hq : accW (S.E N) 9 args σ (.ret (.agg (rOne s).cs)) σ = .lcalls (fun _ => true) → Q (.ret (.agg (rOne s).cs)) σ) : CallW Tryz.prog (S.E N) 9 args σ Q := call_sm s H.o lv_inj ha trivial (lt_1 hN) hq
theorem c_ret (a : Atm) (args : List AV) (σ : Sto) (Q : ARes → Sto → Prop) (ha : nrmR args = [.agg a.cs]) (hq : accW (S.E N) 10 args σ (.ret (.agg (eRet a).cs)) σ = .lcalls (fun _ => true) → Q (.ret (.agg (eRet a).cs)) σ) : CallW Tryz.prog (S.E N) 10 args σ Q := call_sm a H.r lret_inj ha trivial (lt_0 hN) hq
theorem c_let (s : ByteArray) (t : Ty) (r : Rhs) (e : Exp) (args : List AV) (σ : Sto) (Q : ARes → Sto → Prop) (ha : nrmR args = [.lit (.string s), .agg t.cs, .agg r.cs, .agg e.cs]) (hq : accW (S.E N) 8 args σ (.ret (.agg (eLet s t r e).cs)) σ = .lcalls (fun _ => true) → Q (.ret (.agg (eLet s t r e).cs)) σ) : CallW Tryz.prog (S.E N) 8 args σ Q := call_sm (s, t, r, e) H.l llet_inj ha trivial (lt_0 hN) hq
theorem c_same (u : List ByteArray) (f : Fun) (args : List AV) (σ : Sto) (Q : ARes → Sto → Prop) (hu : txtW u ≤ 1000000) (hf : f.w ≤ 1000000) (ha : nrmR args = [.sl (txtR u) .no, .agg f.cs]) (hq : accW (S.E N) 11 args σ (.ret (.lit (.bool true))) σ = .lcalls (fun _ => true) → Q (.ret (.lit (.bool true))) σ) : CallW Tryz.prog (S.E N) 11 args σ Q := call_sm (u, f) H.s fresh_inj ha (sm9_of hu hf) (sm9_N (sm9_of hu hf) hN) hq
theorem c_stem (s : ByteArray) (args : List AV) (σ : Sto) (Q : ARes → Sto → Prop) (hs : s.size ≤ 40) (ha : nrmR args = [.lit (.string s)]) (hq : accW (S.E N) 12 args σ (.ret (.lit (.string ⟨(stemL s.data.toList).toArray⟩))) σ = .lcalls (fun _ => true) → Q (.ret (.lit (.string ⟨(stemL s.data.toList).toArray⟩))) σ) : CallW Tryz.prog (S.E N) 12 args σ Q := call_sm s H.st lv_inj ha (by omega) (lt_0 hN) hq
end
theorem stem_sz (s : ByteArray) : (⟨(stemL s.data.toList).toArray⟩ : ByteArray).size ≤ 30 := by
 have h2 : (stemL s.data.toList).length ≤ 30 := by unfold stemL; rw [List.length_take]; omega
 simpa [ByteArray.size] using h2
theorem used_w {a b s : ByteArray} (ha : a.size ≤ 40) (hb : b.size ≤ 40) (hs : s.size ≤ 30) : txtW [a ++ ⟨#[95, 49]⟩, s ++ ⟨#[95, 50]⟩, b] ≤ 1000000 := by
 have h1 : (a ++ (⟨#[95, 49]⟩ : ByteArray)).size = a.size + 2 := by rw [ByteArray.size_append]; rfl
 have h2 : (s ++ (⟨#[95, 50]⟩ : ByteArray)).size = s.size + 2 := by rw [ByteArray.size_append]; rfl
 simp only [txtW, h1, h2]; omega
theorem take_w {nm : List ByteArray} (hs : ∀ s ∈ nm, s.size ≤ 40) (hl : nm.length ≤ 100) (i : Nat) : txtW (nm.take i) ≤ 1000000 := by
 have h1 := tW_len (l := nm.take i) (k := 40) fun s h => hs s (List.mem_of_mem_take h)
 have h2 : (nm.take i).length ≤ nm.length := by rw [List.length_take]; omega
 omega
structure ScH (N : Nat) (nm : List ByteArray) (a b : ByteArray) (i k : Nat) : Prop where
 hN : 160000000000000 ≤ N
 ln : nm.length ≤ 100
 sz : ∀ s ∈ nm, s.size ≤ 40
 ha : a.size ≤ 40
 hb : b.size ≤ 40
 i : i < nm.length
 k : k < nm.length
def Nx (nm : List ByteArray) (i k : Nat) (σ : Sto) (R : AExit → List AV → Sto → Prop) : Prop := ∀ tm σ', (∃ τ, σ' = σ ++ τ) → R .normal (fm 177 [(0, .lit (.bool false)), (1, .sl (txtR nm) .full), (2, intV i), (3, intV k)] tm) σ'
section
variable {S : Sp} {N : Nat} {nm : List ByteArray} {a b : ByteArray} {i k : Nat} {σ : Sto} {R : AExit → List AV → Sto → Prop}
theorem Nx.more {σ1 : Sto} (h : Nx nm i k σ R) (τ : Sto) (e : σ1 = σ ++ τ) : Nx nm i k σ1 R := fun tm σ' ⟨τ2, e2⟩ => h tm σ' ⟨τ ++ τ2, by rw [e2, e, List.append_assoc]⟩
variable {y0 y1 y2 y3 y4 y5 y6 y7 y8 r0 r1 r2 r3 r4 r5 r6 m0 m1 m2 m3 m4 m5 m6 m7 m8 m9 m10 o0 o1 o2 o3 o4 o5 o6 o7 o8 o9 o10 f0 f1 f2 f3 f4 f5 f6 f7 f8 f9 f10 f11 f12 f13 f14 f15 f16 f17 f18 f19 f20 f21 : AV}
theorem sc_6 (H : ScW S) (D : ScH N nm a b i k) {Q P : Nat} (hQ : σ[Q]? = some (AObj.cells [o0, o1, o2, o3, o4, o5, o6, o7, o8, o9, o10] 49)) (hP : σ[P]? = some (AObj.cells [f0, f1, f2, f3, f4, f5, f6, f7, f8, f9, f10, f11, f12, f13, f14, f15, f16, f17, f18, f19, f20, f21] 58)) (hne : P ≠ Q) (hO : nrmR [o0, o1, o2, o3, o4, o5, o6, o7, o8, o9, o10] = (eOdd a b).cs) (hF : nrmR [f0, f1, f2, f3, f4, f5, f6, f7, f8, f9, f10, f11, f12, f13, f14, f15, f16, f17, f18, f19, f20, f21] = (fBig a b).cs) (hR : Nx nm i k σ R) (tm : List AV) :
    CW Tryz.prog (S.E N) [] (tailC 6 scI) (fm 177 [(0, .lit (.bool false)), (1, .sl (txtR nm) .full), (2, intV i), (3, intV k), (4, .lit (.string a)), (5, .lit (.string b)), (9, .ptr Q 0), (10, .ptr P 0)] tm) σ R := by
 have hu1 := take_w D.sz D.ln i
 have hf1 : (fBig a b).w ≤ 1000000 := Nat.le_trans (fBig_w (by have := D.ha; omega) (by have := D.hb; omega)) (by decide)
 have hf2 : (fOdd a b).w ≤ 1000000 := Nat.le_trans (fOdd_w (by have := D.ha; omega) (by have := D.hb; omega)) (by decide)
 have hu2 := used_w D.ha D.hb (stem_sz b)
 have hb := D.hb
 have s1 := fun args σ Q ha hq => c_same (S := S) H D.hN (nm.take i) (fBig a b) args σ Q hu1 hf1 ha hq
 have s2 := fun args σ Q ha hq => c_same (S := S) H D.hN [a ++ ⟨#[95, 49]⟩, ⟨(stemL b.data.toList).toArray⟩ ++ ⟨#[95, 50]⟩, b] (fOdd a b) args σ Q hu2 hf2 ha hq
 have st := fun args σ Q ha hq => c_stem (S := S) H D.hN b args σ Q hb ha hq
 have htk : (txtR nm).take i = txtR (nm.take i) := by simp [txtR, List.map_take]
 have hle : ((i : Int) ≤ (nm.length : Int)) = True := eq_true (Int.ofNat_le.2 (Nat.le_of_lt D.i))
 have hle' : (i ≤ nm.length) = True := eq_true (Nat.le_of_lt D.i)
 have h0u : ((0 : Int) ≤ (i : Int)) = True := eq_true (Int.natCast_nonneg _)
 have hz1 : a.size + 2 ≤ 140737488355328 := by have := D.ha; omega
 have hz2 := stem_sz b
 clear D H hu1 hf1 hf2 hu2 hb
 generalize (⟨(stemL b.data.toList).toArray⟩ : ByteArray) = sb at *
 have hz3 : sb.size + 2 ≤ 140737488355328 := by omega
 have hz4 : (⟨#[95, 49]⟩ : ByteArray).size = 2 := rfl
 have hz5 : (⟨#[95, 50]⟩ : ByteArray).size = 2 := rfl
 refine CW.seqK fun K hK => CW.draw (by kernel_rfl) ?_
 simp (maxDischargeDepth := 16) [zY, hQ, hP, htk, hle, hle', h0u, txtR_hd, sliceTok]
 refine s1 _ _ _ (by rw [← hF]; simp only [nrmR, AV.nrm, txtR_nrm]) fun hac => ?_
 simp (maxDischargeDepth := 16) [zY, hac, hQ, hP, hz1, hz4]
 refine st _ _ _ (by simp only [nrmR, AV.nrm]) fun hac => ?_
 simp (maxDischargeDepth := 16) [zY, hac, hQ, hP, hz3, hz5]
 refine s2 _ _ _ ?_ fun hac => ?_
 · unfold fOdd
   generalize eOdd a b = E at hO
   obtain ⟨ek, enm, ety, erh, ⟨amk, amnm, amng, amdg, amtr⟩, ear, ebd⟩ := E
   simp only [nrmR, Exp.cs, List.cons.injEq, and_true] at hO
   obtain ⟨q0, q1, q2, q3, q4, q5, q6, q7, q8, q9, q10⟩ := hO
   simp [nrmR, AV.nrm, nrmRR, Fun.cs, txtR, prmR, tyR, trmR, limR, q0, q1, q2, q3, q4, q5, q6, q7, q8, q9, q10]
 simp (maxDischargeDepth := 16) [zY, hac]
 refine ⟨drawOk_sim [P, Q] [.pure, .pure, .pure, .reads 0, .lcalls (fun _ => true), .pure, .pure, .pure, .pure, .pure, .lcalls (fun _ => true), .pure, .pure, .pure, .reads 1, .pure, .lcalls (fun _ => true), .pure, .pure] (.cons (by simp [hne]) (.cons (by simp) .nil)) (.cons .pure (.cons .pure (.cons .pure (.cons (.reads 0 _ rfl) (.cons (.lcalls _ _ fun i a ha hi => rfl) (.cons .pure (.cons .pure (.cons .pure (.cons .pure (.cons .pure (.cons (.lcalls _ _ fun i a ha hi => rfl) (.cons .pure (.cons .pure (.cons .pure (.cons (.reads 1 _ rfl) (.cons .pure (.cons (.lcalls _ _ fun i a ha hi => rfl) (.cons .pure (.cons .pure .nil))))))))))))))))))) (by kernel_rfl), hK _ _ ?_⟩; clear hK K
 refine CW.cond (t := false) (by simp [zT, zF, lk]) ?_
 refine CW.keep [0, 1, 2, 3] fun tm => ?_
 simp only [sel, List.contains_cons, List.contains_nil, Bool.or_false, Nat.reduceBEq, Bool.false_eq_true, if_false, if_true, Bool.or_true, Bool.true_or]
 exact CW.skip (hR _ _ ⟨[], by simp⟩)
theorem sc_5 (H : ScW S) (D : ScH N nm a b i k) {C L Q : Nat} (hC : σ[C]? = some (AObj.cells [y0, y1, y2, y3, y4, y5, y6, y7, y8] 34)) (hL : σ[L]? = some (AObj.cells [r0, r1, r2, r3, r4, r5, r6] 52)) (hQ : σ[Q]? = some (AObj.cells [o0, o1, o2, o3, o4, o5, o6, o7, o8, o9, o10] 49)) (hne : C ≠ L ∧ C ≠ Q ∧ L ≠ Q) (hY : nrmR [y0, y1, y2, y3, y4, y5, y6, y7, y8] = (yFun a b).cs) (hr : nrmR [r0, r1, r2, r3, r4, r5, r6] = (rLam a b).cs) (hO : nrmR [o0, o1, o2, o3, o4, o5, o6, o7, o8, o9, o10] = (eOdd a b).cs) (hR : Nx nm i k σ R) (tm : List AV) :
    CW Tryz.prog (S.E N) [] (tailC 5 scI) (fm 177 [(0, .lit (.bool false)), (1, .sl (txtR nm) .full), (2, intV i), (3, intV k), (4, .lit (.string a)), (5, .lit (.string b)), (6, .ptr C 0), (7, .ptr L 0), (9, .ptr Q 0)] tm) σ R := by
 have lC := (List.getElem?_eq_some_iff.1 hC).1
 have lL := (List.getElem?_eq_some_iff.1 hL).1
 have lQ := (List.getElem?_eq_some_iff.1 hQ).1
 have ci := c_ints (S := S) (N := N) H D.hN
 have cl := c_let (S := S) (N := N) H D.hN b (yInts b) (rLam a b) (eOdd a b)
 have nx := fun f0 f1 f2 f3 f4 f5 f6 f7 f8 f9 f10 f11 f12 f13 f14 f15 f16 f17 f18 f19 f20 f21 hF tm => sc_6 (R := R) (σ := σ ++ [AObj.cells [f0, f1, f2, f3, f4, f5, f6, f7, f8, f9, f10, f11, f12, f13, f14, f15, f16, f17, f18, f19, f20, f21] 58]) (f0 := f0) (f1 := f1) (f2 := f2) (f3 := f3) (f4 := f4) (f5 := f5) (f6 := f6) (f7 := f7) (f8 := f8) (f9 := f9) (f10 := f10) (f11 := f11) (f12 := f12) (f13 := f13) (f14 := f14) (f15 := f15) (f16 := f16) (f17 := f17) (f18 := f18) (f19 := f19) (f20 := f20) (f21 := f21) (Q := Q) (P := σ.length) H D ((st_old lQ).trans hQ) (by simp) (Nat.ne_of_gt lQ) hO hF (hR.more _ rfl) tm
 clear D H hR
 refine CW.seqK fun K hK => CW.draw (by kernel_rfl) ?_
 simp (maxDischargeDepth := 16) [zY, hC, hL, hQ]
 refine ci a _ _ _ (by simp only [nrmR, AV.nrm]) fun hac => ?_
 simp (maxDischargeDepth := 16) [zY, hac]
 simp (maxDischargeDepth := 16) [zY, Ty.cs]
 refine ci b _ _ _ (by simp only [nrmR, AV.nrm]) fun hac => ?_
 simp (maxDischargeDepth := 16) [zY, hac]
 simp (maxDischargeDepth := 16) [zY, hC, hL, hQ, Ty.cs]
 refine ci b _ _ _ (by simp only [nrmR, AV.nrm]) fun hac => ?_
 simp (maxDischargeDepth := 16) [zY, hac]
 simp (maxDischargeDepth := 16) [zY, hC, hL, hQ, Ty.cs]
 refine cl _ _ _ (by simp only [nrmR] at hr hO; simp [nrmR, AV.nrm, nrmRR, hr, hO, Ty.cs, prmR, tyR, limR, trmR, Trm.cs]) fun hac => ?_
 simp (maxDischargeDepth := 16) [zY, hac]
 simp (maxDischargeDepth := 16) [zY, hC, hL, hQ, Exp.cs]
 refine ⟨drawOk_sim [C, L, Q, σ.length] [.pure, .pure, .reads 0, .pure, .pure, .pure, .lcalls (fun _ => true), .pure, .pure, .pure, .lcalls (fun _ => true), .pure, .pure, .lcalls (fun _ => true), .reads 1, .reads 2, .lcalls (fun _ => true), .pure, .news 3, .writes 3] (.cons (by simp [hne.1, hne.2.1, Nat.ne_of_lt lC]) (.cons (by simp [hne.2.2, Nat.ne_of_lt lL]) (.cons (by simp [Nat.ne_of_lt lQ]) (.cons (by simp) .nil)))) (.cons .pure (.cons .pure (.cons (.reads 0 _ rfl) (.cons .pure (.cons .pure (.cons .pure (.cons (.lcalls _ _ fun i a ha hi => rfl) (.cons .pure (.cons .pure (.cons .pure (.cons (.lcalls _ _ fun i a ha hi => rfl) (.cons .pure (.cons .pure (.cons (.lcalls _ _ fun i a ha hi => rfl) (.cons (.reads 1 _ rfl) (.cons (.reads 2 _ rfl) (.cons (.lcalls _ _ fun i a ha hi => rfl) (.cons .pure (.cons (.news 3 _ rfl) (.cons (.writes 3 _ rfl) .nil)))))))))))))))))))) (by kernel_rfl), hK _ _ ?_⟩; clear hK K
 refine CW.keep [0, 1, 2, 3, 4, 5, 9, 10] fun tm => ?_
 simp only [sel, List.contains_cons, List.contains_nil, Bool.or_false, Nat.reduceBEq, Bool.false_eq_true, if_false, if_true, Bool.or_true, Bool.true_or]
 refine nx _ _ _ _ _ _ _ _ _ _ _ _ _ _ _ _ _ _ _ _ _ _ ?_ _
 unfold fBig
 generalize rLam a b = Lx at *
 generalize eOdd a b = Ox at *
 generalize yFun a b = Yx at *
 obtain ⟨yfn, yst, ⟨yk, ynm, yng, ydg, yks⟩, yps, yrs⟩ := Yx
 simp only [nrmR, Ty.cs, List.cons.injEq, and_true] at hY
 obtain ⟨q0, q1, q2, q3, q4, q5, q6, q7, q8⟩ := hY
 simp [nrmR, AV.nrm, nrmRR, Fun.cs, prmR, Prm.cs, q0, q1, q2, q3, q4, q5, q6, q7, q8, tyR_nrm, trmR_nrm, limR_nrm, rhsR_nrm, armR_nrm, expR_nrm, prmR_nrm]
theorem sc_4 (H : ScW S) (D : ScH N nm a b i k) {C L V : Nat} (hC : σ[C]? = some (AObj.cells [y0, y1, y2, y3, y4, y5, y6, y7, y8] 34)) (hL : σ[L]? = some (AObj.cells [r0, r1, r2, r3, r4, r5, r6] 52)) (hV : σ[V]? = some (AObj.cells [m0, m1, m2, m3, m4, m5, m6, m7, m8, m9, m10] 49)) (hne : C ≠ L ∧ C ≠ V ∧ L ≠ V) (hY : nrmR [y0, y1, y2, y3, y4, y5, y6, y7, y8] = (yFun a b).cs) (hr : nrmR [r0, r1, r2, r3, r4, r5, r6] = (rLam a b).cs) (hM : nrmR [m0, m1, m2, m3, m4, m5, m6, m7, m8, m9, m10] = (eMatch a b).cs) (hR : Nx nm i k σ R) (tm : List AV) :
    CW Tryz.prog (S.E N) [] (tailC 4 scI) (fm 177 [(0, .lit (.bool false)), (1, .sl (txtR nm) .full), (2, intV i), (3, intV k), (4, .lit (.string a)), (5, .lit (.string b)), (6, .ptr C 0), (7, .ptr L 0), (8, .ptr V 0)] tm) σ R := by
 have lC := (List.getElem?_eq_some_iff.1 hC).1
 have lL := (List.getElem?_eq_some_iff.1 hL).1
 have lV := (List.getElem?_eq_some_iff.1 hV).1
 have ci := c_ints (S := S) (N := N) H D.hN
 have cv := c_v (S := S) (N := N) H D.hN
 have co := c_one (S := S) (N := N) H D.hN
 have cr := c_ret (S := S) (N := N) H D.hN
 have nx := fun o0 o1 o2 o3 o4 o5 o6 o7 o8 o9 o10 hx tm => sc_5 (R := R) (σ := σ ++ [AObj.cells [o0, o1, o2, o3, o4, o5, o6, o7, o8, o9, o10] 49]) (o0 := o0) (o1 := o1) (o2 := o2) (o3 := o3) (o4 := o4) (o5 := o5) (o6 := o6) (o7 := o7) (o8 := o8) (o9 := o9) (o10 := o10) (C := C) (L := L) (Q := σ.length) H D ((st_old lC).trans hC) ((st_old lL).trans hL) (by simp) ⟨hne.1, Nat.ne_of_lt lC, Nat.ne_of_lt lL⟩ hY hr hx (hR.more _ rfl) tm
 clear D H hR
 refine CW.seqK fun K hK => CW.draw (by kernel_rfl) ?_
 simp (maxDischargeDepth := 16) [zY, hC, hL, hV]
 refine cv b _ _ _ (by simp only [nrmR, AV.nrm]) fun hac => ?_
 simp (maxDischargeDepth := 16) [zY, hac]
 simp (maxDischargeDepth := 16) [zY, Atm.cs, hC, hL, hV]
 refine co b _ _ _ (by simp only [nrmR, AV.nrm]) fun hac => ?_
 simp (maxDischargeDepth := 16) [zY, hac]
 simp (maxDischargeDepth := 16) [zY, Rhs.cs, hC, hL, hV]
 refine cv a _ _ _ (by simp only [nrmR, AV.nrm]) fun hac => ?_
 simp (maxDischargeDepth := 16) [zY, hac]
 simp (maxDischargeDepth := 16) [zY, Atm.cs, hC, hL, hV]
 refine cr (aV a) _ _ _ (by simp [nrmR, AV.nrm, nrmRR, Atm.cs, limR]) fun hac => ?_
 simp (maxDischargeDepth := 16) [zY, hac]
 simp (maxDischargeDepth := 16) [zY, Exp.cs, hC, hL, hV]
 refine ⟨drawOk_sim [C, L, V, σ.length] [.pure, .pure, .lcalls (fun _ => true), .reads 0, .pure, .reads 1, .pure, .lcalls (fun _ => true), .pure, .reads 2, .pure, .lcalls (fun _ => true), .lcalls (fun _ => true), .pure, .pure, .news 3, .writes 3] (.cons (by simp [hne.1, hne.2.1, Nat.ne_of_lt lC]) (.cons (by simp [hne.2.2, Nat.ne_of_lt lL]) (.cons (by simp [Nat.ne_of_lt lV]) (.cons (by simp) .nil)))) (.cons .pure (.cons .pure (.cons (.lcalls _ _ fun i a ha hi => rfl) (.cons (.reads 0 _ rfl) (.cons .pure (.cons (.reads 1 _ rfl) (.cons .pure (.cons (.lcalls _ _ fun i a ha hi => rfl) (.cons .pure (.cons (.reads 2 _ rfl) (.cons .pure (.cons (.lcalls _ _ fun i a ha hi => rfl) (.cons (.lcalls _ _ fun i a ha hi => rfl) (.cons .pure (.cons .pure (.cons (.news 3 _ rfl) (.cons (.writes 3 _ rfl) .nil))))))))))))))))) (by kernel_rfl), hK _ _ ?_⟩; clear hK K
 refine CW.keep [0, 1, 2, 3, 4, 5, 6, 7, 9] fun tm => ?_
 simp only [sel, List.contains_cons, List.contains_nil, Bool.or_false, Nat.reduceBEq, Bool.false_eq_true, if_false, if_true, Bool.or_true, Bool.true_or]
 refine nx _ _ _ _ _ _ _ _ _ _ _ ?_ _
 unfold eOdd
 generalize rLam a b = Lx at *
 generalize eMatch a b = Mx at *
 generalize yFun a b = Yx at *
 obtain ⟨yfn, yst, ⟨yk, ynm, yng, ydg, yks⟩, yps, yrs⟩ := Yx
 simp only [nrmR, Ty.cs, List.cons.injEq, and_true] at hY
 obtain ⟨q0, q1, q2, q3, q4, q5, q6, q7, q8⟩ := hY
 obtain ⟨lk, lnm, lats, lps, lrs, lbd, lts⟩ := Lx
 simp only [nrmR, Rhs.cs, List.cons.injEq, and_true] at hr
 obtain ⟨u0, u1, u2, u3, u4, u5, u6⟩ := hr
 obtain ⟨mk, mnm, mty, mrh, ⟨mak, manm, mang, madg, matr⟩, mar, mbd⟩ := Mx
 simp only [nrmR, Exp.cs, List.cons.injEq, and_true] at hM
 obtain ⟨e0, e1, e2, e3, e4, e5, e6, e7, e8, e9, e10⟩ := hM
 simp [nrmR, AV.nrm, nrmRR, Ty.cs, prmR, Prm.cs, tyR, limN0, trmR, Trm.cs, Atm.cs, atmR, Rhs.cs, rhsR, Exp.cs, expR, Arm.cs, armR, txtR, kLe, tyR_nrm, trmR_nrm, limR_nrm, rhsR_nrm, armR_nrm, expR_nrm, prmR_nrm, q0, q1, q2, q3, q4, q5, q6, q7, q8, u0, u1, u2, u3, u4, u5, u6, e0, e1, e2, e3, e4, e5, e6, e7, e8, e9, e10]
theorem sc_3 (H : ScW S) (D : ScH N nm a b i k) {C L : Nat} (hC : σ[C]? = some (AObj.cells [y0, y1, y2, y3, y4, y5, y6, y7, y8] 34)) (hL : σ[L]? = some (AObj.cells [r0, r1, r2, r3, r4, r5, r6] 52)) (hne : C ≠ L) (hY : nrmR [y0, y1, y2, y3, y4, y5, y6, y7, y8] = (yFun a b).cs) (hr : nrmR [r0, r1, r2, r3, r4, r5, r6] = (rLam a b).cs) (hR : Nx nm i k σ R) (tm : List AV) :
    CW Tryz.prog (S.E N) [] (tailC 3 scI) (fm 177 [(0, .lit (.bool false)), (1, .sl (txtR nm) .full), (2, intV i), (3, intV k), (4, .lit (.string a)), (5, .lit (.string b)), (6, .ptr C 0), (7, .ptr L 0)] tm) σ R := by
 have lC := (List.getElem?_eq_some_iff.1 hC).1
 have lL := (List.getElem?_eq_some_iff.1 hL).1
 have ci := c_ints (S := S) (N := N) H D.hN
 have cv := c_v (S := S) (N := N) H D.hN
 have co := c_one (S := S) (N := N) H D.hN
 have cr := c_ret (S := S) (N := N) H D.hN
 have nx := fun m0 m1 m2 m3 m4 m5 m6 m7 m8 m9 m10 hx tm => sc_4 (R := R) (σ := σ ++ [AObj.cells [m0, m1, m2, m3, m4, m5, m6, m7, m8, m9, m10] 49]) (m0 := m0) (m1 := m1) (m2 := m2) (m3 := m3) (m4 := m4) (m5 := m5) (m6 := m6) (m7 := m7) (m8 := m8) (m9 := m9) (m10 := m10) (C := C) (L := L) (V := σ.length) H D ((st_old lC).trans hC) ((st_old lL).trans hL) (by simp) ⟨hne, Nat.ne_of_lt lC, Nat.ne_of_lt lL⟩ hY hr hx (hR.more _ rfl) tm
 clear D H hR
 refine CW.seqK fun K hK => CW.region ?_
 simp (maxDischargeDepth := 16) [zY, hC]
 refine cv a _ _ _ (by simp only [nrmR, AV.nrm]) fun hac => ?_
 simp (maxDischargeDepth := 16) [zY, hac]
 simp (maxDischargeDepth := 16) [zY, Atm.cs, hC]
 refine cv a _ _ _ (by simp only [nrmR, AV.nrm]) fun hac => ?_
 simp (maxDischargeDepth := 16) [zY, hac]
 simp (maxDischargeDepth := 16) [zY, Atm.cs, hC]
 refine cr (aV a) _ _ _ (by simp [nrmR, AV.nrm, nrmRR, Atm.cs, limR]) fun hac => ?_
 simp (maxDischargeDepth := 16) [zY, hac]
 simp (maxDischargeDepth := 16) [zY, Exp.cs, hC]
 refine cv b _ _ _ (by simp only [nrmR, AV.nrm]) fun hac => ?_
 simp (maxDischargeDepth := 16) [zY, hac]
 simp (maxDischargeDepth := 16) [zY, Atm.cs, hC]
 refine cr (aV b) _ _ _ (by simp [nrmR, AV.nrm, nrmRR, Atm.cs, limR]) fun hac => ?_
 simp (maxDischargeDepth := 16) [zY, hac]
 simp (maxDischargeDepth := 16) [zY, Exp.cs, hC]
 refine hK _ _ ?_; clear hK K
 refine CW.keep [0, 1, 2, 3, 4, 5, 6, 7, 8] fun tm => ?_
 simp only [sel, List.contains_cons, List.contains_nil, Bool.or_false, Nat.reduceBEq, Bool.false_eq_true, if_false, if_true, Bool.or_true, Bool.true_or]
 refine nx _ _ _ _ _ _ _ _ _ _ _ ?_ _
 unfold eMatch
 simp [nrmR, AV.nrm, nrmRR, Ty.cs, prmR, Prm.cs, tyR, limN0, trmR, Trm.cs, Atm.cs, atmR, Rhs.cs, rhsR, Exp.cs, expR, Arm.cs, armR, txtR, kLe, tyR_nrm, trmR_nrm, limR_nrm, rhsR_nrm, armR_nrm, expR_nrm, prmR_nrm]
theorem sc_2 (H : ScW S) (D : ScH N nm a b i k) {C : Nat} (hC : σ[C]? = some (AObj.cells [y0, y1, y2, y3, y4, y5, y6, y7, y8] 34)) (hY : nrmR [y0, y1, y2, y3, y4, y5, y6, y7, y8] = (yFun a b).cs) (hR : Nx nm i k σ R) (tm : List AV) :
    CW Tryz.prog (S.E N) [] (tailC 2 scI) (fm 177 [(0, .lit (.bool false)), (1, .sl (txtR nm) .full), (2, intV i), (3, intV k), (4, .lit (.string a)), (5, .lit (.string b)), (6, .ptr C 0)] tm) σ R := by
 have lC := (List.getElem?_eq_some_iff.1 hC).1
 have ci := c_ints (S := S) (N := N) H D.hN
 have cv := c_v (S := S) (N := N) H D.hN
 have co := c_one (S := S) (N := N) H D.hN
 have cr := c_ret (S := S) (N := N) H D.hN
 have cl := c_let (S := S) (N := N) H D.hN a (yFun a b) (rOne a) (eRet (aV a))
 have nx := fun r0 r1 r2 r3 r4 r5 r6 hx tm => sc_3 (R := R) (σ := σ ++ [AObj.cells [r0, r1, r2, r3, r4, r5, r6] 52]) (r0 := r0) (r1 := r1) (r2 := r2) (r3 := r3) (r4 := r4) (r5 := r5) (r6 := r6) (C := C) (L := σ.length) H D ((st_old lC).trans hC) (by simp) (Nat.ne_of_lt lC) hY hx (hR.more _ rfl) tm
 clear D H hR
 refine CW.seqK fun K hK => CW.draw (by kernel_rfl) ?_
 simp (maxDischargeDepth := 16) [zY, hC]
 refine cv a _ _ _ (by simp only [nrmR, AV.nrm]) fun hac => ?_
 simp (maxDischargeDepth := 16) [zY, hac]
 simp (maxDischargeDepth := 16) [zY, Atm.cs, hC]
 refine ci b _ _ _ (by simp only [nrmR, AV.nrm]) fun hac => ?_
 simp (maxDischargeDepth := 16) [zY, hac]
 simp (maxDischargeDepth := 16) [zY, Ty.cs, hC]
 refine ci a _ _ _ (by simp only [nrmR, AV.nrm]) fun hac => ?_
 simp (maxDischargeDepth := 16) [zY, hac]
 simp (maxDischargeDepth := 16) [zY, Ty.cs, hC]
 refine co a _ _ _ (by simp only [nrmR, AV.nrm]) fun hac => ?_
 simp (maxDischargeDepth := 16) [zY, hac]
 simp (maxDischargeDepth := 16) [zY, Rhs.cs, hC]
 refine cv a _ _ _ (by simp only [nrmR, AV.nrm]) fun hac => ?_
 simp (maxDischargeDepth := 16) [zY, hac]
 simp (maxDischargeDepth := 16) [zY, Atm.cs, hC]
 refine cr (aV a) _ _ _ (by simp [nrmR, AV.nrm, nrmRR, Atm.cs, limR]) fun hac => ?_
 simp (maxDischargeDepth := 16) [zY, hac]
 simp (maxDischargeDepth := 16) [zY, Exp.cs, hC]
 refine cl _ _ _ (by simp only [nrmR] at hY; simp [nrmR, AV.nrm, nrmRR, hY, Rhs.cs, Exp.cs, atmR, Atm.cs, prmR, tyR, limR, trmR, expR, rhsR, armR]) fun hac => ?_
 simp (maxDischargeDepth := 16) [zY, hac]
 simp (maxDischargeDepth := 16) [zY, Exp.cs, hC]
 refine cv b _ _ _ (by simp only [nrmR, AV.nrm]) fun hac => ?_
 simp (maxDischargeDepth := 16) [zY, hac]
 simp (maxDischargeDepth := 16) [zY, Atm.cs, hC]
 refine cr (aV b) _ _ _ (by simp [nrmR, AV.nrm, nrmRR, Atm.cs, limR]) fun hac => ?_
 simp (maxDischargeDepth := 16) [zY, hac]
 simp (maxDischargeDepth := 16) [zY, Exp.cs, hC]
 refine ci a _ _ _ (by simp only [nrmR, AV.nrm]) fun hac => ?_
 simp (maxDischargeDepth := 16) [zY, hac]
 simp (maxDischargeDepth := 16) [zY, Ty.cs, hC]
 refine ⟨drawOk_sim [C, σ.length] [.pure, .lcalls (fun _ => true), .pure, .pure, .reads 0, .pure, .pure, .pure, .lcalls (fun _ => true), .pure, .pure, .pure, .lcalls (fun _ => true), .pure, .pure, .reads 0, .pure, .lcalls (fun _ => true), .pure, .lcalls (fun _ => true), .lcalls (fun _ => true), .lcalls (fun _ => true), .pure, .lcalls (fun _ => true), .lcalls (fun _ => true), .pure, .pure, .lcalls (fun _ => true), .pure, .pure, .pure, .news 1, .writes 1] (.cons (by simp [Nat.ne_of_lt lC]) (.cons (by simp) .nil)) (.cons .pure (.cons (.lcalls _ _ fun i a ha hi => rfl) (.cons .pure (.cons .pure (.cons (.reads 0 _ rfl) (.cons .pure (.cons .pure (.cons .pure (.cons (.lcalls _ _ fun i a ha hi => rfl) (.cons .pure (.cons .pure (.cons .pure (.cons (.lcalls _ _ fun i a ha hi => rfl) (.cons .pure (.cons .pure (.cons (.reads 0 _ rfl) (.cons .pure (.cons (.lcalls _ _ fun i a ha hi => rfl) (.cons .pure (.cons (.lcalls _ _ fun i a ha hi => rfl) (.cons (.lcalls _ _ fun i a ha hi => rfl) (.cons (.lcalls _ _ fun i a ha hi => rfl) (.cons .pure (.cons (.lcalls _ _ fun i a ha hi => rfl) (.cons (.lcalls _ _ fun i a ha hi => rfl) (.cons .pure (.cons .pure (.cons (.lcalls _ _ fun i a ha hi => rfl) (.cons .pure (.cons .pure (.cons .pure (.cons (.news 1 _ rfl) (.cons (.writes 1 _ rfl) .nil))))))))))))))))))))))))))))))))) (by kernel_rfl), hK _ _ ?_⟩; clear hK K
 refine CW.keep [0, 1, 2, 3, 4, 5, 6, 7] fun tm => ?_
 simp only [sel, List.contains_cons, List.contains_nil, Bool.or_false, Nat.reduceBEq, Bool.false_eq_true, if_false, if_true, Bool.or_true, Bool.true_or]
 refine nx _ _ _ _ _ _ _ ?_ _
 unfold rLam
 generalize yFun a b = Yx at *
 obtain ⟨yfn, yst, ⟨yk, ynm, yng, ydg, yks⟩, yps, yrs⟩ := Yx
 simp only [nrmR, Ty.cs, List.cons.injEq, and_true] at hY
 obtain ⟨q0, q1, q2, q3, q4, q5, q6, q7, q8⟩ := hY
 simp [nrmR, AV.nrm, nrmRR, Ty.cs, prmR, Prm.cs, tyR, limN0, trmR, Trm.cs, Atm.cs, atmR, Rhs.cs, rhsR, Exp.cs, expR, Arm.cs, armR, txtR, kLe, tyR_nrm, trmR_nrm, limR_nrm, rhsR_nrm, armR_nrm, expR_nrm, prmR_nrm, q0, q1, q2, q3, q4, q5, q6, q7, q8]
theorem sc_1 (H : ScW S) (D : ScH N nm a b i k) (hR : Nx nm i k σ R) (tm : List AV) :
    CW Tryz.prog (S.E N) [] (tailC 1 scI) (fm 177 [(0, .lit (.bool false)), (1, .sl (txtR nm) .full), (2, intV i), (3, intV k), (4, .lit (.string a)), (5, .lit (.string b))] tm) σ R := by
 have ci := c_ints (S := S) (N := N) H D.hN
 have nx := fun y0 y1 y2 y3 y4 y5 y6 y7 y8 hx tm => sc_2 (R := R) (σ := σ ++ [AObj.cells [y0, y1, y2, y3, y4, y5, y6, y7, y8] 34]) (y0 := y0) (y1 := y1) (y2 := y2) (y3 := y3) (y4 := y4) (y5 := y5) (y6 := y6) (y7 := y7) (y8 := y8) (C := σ.length) H D (by simp) hx (hR.more _ rfl) tm
 clear D H hR
 refine CW.seqK fun K hK => CW.region ?_
 simp (maxDischargeDepth := 16) [zY, andThen]
 refine ci a _ _ _ (by simp only [nrmR, AV.nrm]) fun hac => ?_
 simp (maxDischargeDepth := 16) [zY, hac]
 simp (maxDischargeDepth := 16) [zY, Ty.cs, andThen]
 refine ci b _ _ _ (by simp only [nrmR, AV.nrm]) fun hac => ?_
 simp (maxDischargeDepth := 16) [zY, hac]
 simp (maxDischargeDepth := 16) [zY, Ty.cs, andThen]
 refine ci a _ _ _ (by simp only [nrmR, AV.nrm]) fun hac => ?_
 simp (maxDischargeDepth := 16) [zY, hac]
 simp (maxDischargeDepth := 16) [zY, Ty.cs, andThen]
 refine ci b _ _ _ (by simp only [nrmR, AV.nrm]) fun hac => ?_
 simp (maxDischargeDepth := 16) [zY, hac]
 simp (maxDischargeDepth := 16) [zY, Ty.cs, andThen]
 refine hK _ _ ?_; clear hK K
 refine CW.keep [0, 1, 2, 3, 4, 5, 6] fun tm => ?_
 simp only [sel, List.contains_cons, List.contains_nil, Bool.or_false, Nat.reduceBEq, Bool.false_eq_true, if_false, if_true, Bool.or_true, Bool.true_or]
 refine nx _ _ _ _ _ _ _ _ _ ?_ _
 unfold yFun
 simp [nrmR, AV.nrm, nrmRR, Ty.cs, prmR, Prm.cs, tyR, limN0, trmR, Trm.cs, Atm.cs, atmR, Rhs.cs, rhsR, Exp.cs, expR, Arm.cs, armR, txtR, kLe, tyR_nrm, trmR_nrm, limR_nrm, rhsR_nrm, armR_nrm, expR_nrm, prmR_nrm]
theorem sc_0 (H : ScW S) (hN : 160000000000000 ≤ N) (ln : nm.length ≤ 100) (sz : ∀ s ∈ nm, s.size ≤ 40) (hi : i < nm.length) (hk : k < nm.length) (hR : Nx nm i k σ R) (tm : List AV) :
    CW Tryz.prog (S.E N) [] scI (fm 177 [(0, .lit (.bool false)), (1, .sl (txtR nm) .full), (2, intV i), (3, intV k)] tm) σ R := by
 have nx := fun tm => sc_1 (R := R) (σ := σ) H ⟨hN, ln, sz, sz _ (List.getElem_mem hi), sz _ (List.getElem_mem hk), hi, hk⟩ hR tm
 have h1 := txtR_get hi
 have h2 := txtR_get hk
 generalize nm[i] = a at *
 generalize nm[k] = b at *
 clear hR H sz ln hN
 refine CW.seqK fun K hK => CW.draw (by kernel_rfl) ?_
 simp (maxDischargeDepth := 16) [zY, h1, h2]
 refine ⟨by kernel_rfl, hK _ _ ?_⟩; clear hK K
 refine CW.keep [0, 1, 2, 3, 4, 5] fun tm => ?_
 simp only [sel, List.contains_cons, List.contains_nil, Bool.or_false, Nat.reduceBEq, Bool.false_eq_true, if_false, if_true, Bool.or_true, Bool.true_or]
 exact nx _
end
end
section
open Go.RowKit
noncomputable abbrev scJ : Code := sndC (inC (fstC (sndC (inC (inC (sndC (fstC (tailC 2 scB))))))))
section
variable {S : Sp} {N : Nat} {nm : List ByteArray} {i : Nat} {σ : Sto} {R : AExit → List AV → Sto → Prop}
theorem sc_j (H : ScW S) (hN : 160000000000000 ≤ N) (ln : nm.length ≤ 100) (sz : ∀ s ∈ nm, s.size ≤ 40) (hi : i < nm.length)
    (hR : ∀ tm τ, R .normal (fm 177 [(0, .lit (.bool false)), (1, .sl (txtR nm) .full), (2, intV i)] tm) (σ ++ τ)) (tm : List AV) :
    CW Tryz.prog (S.E N) [] scJ (fm 177 [(0, .lit (.bool false)), (1, .sl (txtR nm) .full), (2, intV i), (3, intV 0)] tm) σ R := by
 have nx := fun (k : Nat) (hk : k < nm.length) (R : AExit → List AV → Sto → Prop) (σ : Sto) (hR : Nx nm i k σ R) tm => sc_0 (S := S) (N := N) H hN ln sz hi hk hR tm
 clear H sz hN
 refine CW.block (CW.hide fun R1 hR1 => ?_)
 refine CW.loopF (fun p : Nat × Sto => [(0, .lit (.bool false)), (1, .sl (txtR nm) .full), (2, intV i), (3, intV p.1)]) (fun p => σ ++ p.2) (fun p => p.1 ≤ nm.length) (fun p => nm.length - p.1) (0, []) (by simp [sub, lk]) (by simp) (Nat.zero_le _) ?_
 rintro ⟨k, τ⟩ tm hk
 dsimp only at hk ⊢
 refine CW.hide fun R2 hR2 => CW.seqK fun K3 hK3 => CW.seqK fun K4 hK4 => CW.region ?_
 rcases Nat.lt_or_ge k nm.length with hlt | hge
 · simp (maxDischargeDepth := 16) [zY, hlt]
   refine hK4 _ _ ?_
   refine CW.cond (t := true) (by simp [zT, zF, lk]) ?_
   refine CW.skip (hK3 _ _ ?_)
   refine CW.seqK fun K5 hK5 => CW.block ?_
   have hw : IntKind.i64.wrap ((k : Int) + 1) = ((k + 1 : Nat) : Int) := wrap_succ (show k ≤ 1000000000000 by omega)
   refine CW.keep [0, 1, 2, 3] fun tm => ?_
   simp only [sel, List.contains_cons, List.contains_nil, Bool.or_false, Nat.reduceBEq, Bool.false_eq_true, if_false, if_true, Bool.or_true, Bool.true_or]
   refine nx k hlt _ _ ?_ _
   rintro tm σ' ⟨τ', rfl⟩
   simp only [outOf, andThen]
   refine hK5 _ _ ?_
   refine CW.region ?_
   simp (maxDischargeDepth := 16) [zY, hw]
   refine hR2 _ _ _ ⟨(k + 1, τ ++ τ'), _, _, rfl, by simp [sub, lk], by simp, hlt, by show nm.length - (k + 1) < nm.length - k; omega⟩
 obtain rfl : k = nm.length := by omega
 simp (maxDischargeDepth := 16) [zY, Nat.not_lt.2 hge]
 refine hK4 _ _ ?_
 refine CW.cond (t := false) (by simp [zT, zF, lk]) ?_
 refine CW.keep [0, 1, 2] fun tm => ?_
 simp only [sel, List.contains_cons, List.contains_nil, Bool.or_false, Nat.reduceBEq, Bool.false_eq_true, if_false, if_true, Bool.or_true, Bool.true_or]
 refine CW.exit (hR2 _ _ _ (hR1 _ _ _ ?_))
 simp only [outOf, if_true]
 exact hR _ _
theorem sc_o (H : ScW S) (hN : 160000000000000 ≤ N) (ln : nm.length ≤ 100) (sz : ∀ s ∈ nm, s.size ≤ 40)
    (hR : ∀ tm τ, R .normal (fm 177 [(0, .lit (.bool false)), (1, .sl (txtR nm) .full)] tm) (σ ++ τ)) (tm : List AV) :
    CW Tryz.prog (S.E N) [] (fstC (tailC 2 scB)) (fm 177 [(0, .lit (.bool false)), (1, .sl (txtR nm) .full)] tm) σ R := by
 have nx := fun (i : Nat) (hi : i < nm.length) (R : AExit → List AV → Sto → Prop) (σ : Sto) hR tm => sc_j (S := S) (N := N) (R := R) (σ := σ) H hN ln sz hi hR tm
 clear H sz hN
 refine CW.seqK fun K hK => CW.region ?_
 simp (maxDischargeDepth := 16) [zY]
 refine hK _ _ ?_; clear hK K
 refine CW.block (CW.hide fun R1 hR1 => ?_)
 refine CW.loopF (fun p : Nat × Sto => [(0, .lit (.bool false)), (1, .sl (txtR nm) .full), (2, intV p.1)]) (fun p => σ ++ p.2) (fun p => p.1 ≤ nm.length) (fun p => nm.length - p.1) (0, []) (by simp [sub, lk]) (by simp) (Nat.zero_le _) ?_
 rintro ⟨i, τ⟩ tm hi
 dsimp only at hi ⊢
 refine CW.hide fun R2 hR2 => CW.seqK fun K3 hK3 => CW.seqK fun K4 hK4 => CW.region ?_
 rcases Nat.lt_or_ge i nm.length with hlt | hge
 · simp (maxDischargeDepth := 16) [zY, hlt]
   refine hK4 _ _ ?_
   refine CW.cond (t := true) (by simp [zT, zF, lk]) ?_
   refine CW.skip (hK3 _ _ ?_)
   refine CW.seqK fun K5 hK5 => CW.block ?_
   have hw : IntKind.i64.wrap ((i : Int) + 1) = ((i + 1 : Nat) : Int) := wrap_succ (show i ≤ 1000000000000 by omega)
   refine CW.hide fun R5 hR5 => ?_
   refine CW.seqK fun K hK => CW.region ?_
   simp (maxDischargeDepth := 16) [zY]
   refine hK _ _ ?_; clear hK K
   refine CW.keep [0, 1, 2, 3] fun tm => ?_
   simp only [sel, List.contains_cons, List.contains_nil, Bool.or_false, Nat.reduceBEq, Bool.false_eq_true, if_false, if_true, Bool.or_true, Bool.true_or]
   refine nx i hlt _ _ ?_ _
   intro tm τ'
   refine hR5 _ _ _ ?_
   simp only [outOf, andThen]
   refine hK5 _ _ ?_
   refine CW.region ?_
   simp (maxDischargeDepth := 16) [zY, hw]
   refine hR2 _ _ _ ⟨(i + 1, τ ++ τ'), _, _, rfl, by simp [sub, lk], by simp, hlt, by show nm.length - (i + 1) < nm.length - i; omega⟩
 obtain rfl : i = nm.length := by omega
 simp (maxDischargeDepth := 16) [zY, Nat.not_lt.2 hge]
 refine hK4 _ _ ?_
 refine CW.cond (t := false) (by simp [zT, zF, lk]) ?_
 refine CW.keep [0, 1] fun tm => ?_
 simp only [sel, List.contains_cons, List.contains_nil, Bool.or_false, Nat.reduceBEq, Bool.false_eq_true, if_false, if_true, Bool.or_true, Bool.true_or]
 refine CW.exit (hR2 _ _ _ (hR1 _ _ _ ?_))
 simp only [outOf, if_true]
 exact hR _ _
end
theorem wFlat_u : txtW [x1, x1, x2] ≤ 1000000 := by decide +kernel
theorem sc_big {N : Nat} (hN : 16 * 10000000000000 + 0 ≤ N) : 160000000000000 ≤ N := by simpa using hN
theorem sc_1000 {N : Nat} (hN : 160000000000000 ≤ N) : 16 * 1000 + 0 < N := by omega
abbrev scF : FS := smF (fun _ : Unit => []) (fun _ => .lit (.bool true)) (fun _ => True) (fun _ => 10000000000000) 0
variable {S : Sp} {N : Nat}
theorem scopes_w (H : ScW S) : SmOk Tryz.prog S N 3 (fun _ : Unit => []) (fun _ => .lit (.bool true)) (fun _ => True) (fun _ => 10000000000000) 0 := by
 intro _ σ hk hN
 dsimp only at hN
 replace hN := sc_big hN
 refine JC.startF (fn := Tryz.f3) (codeOf H.code Tryz.func3 rfl (by kernel_rfl)) rfl H.m rfl (zL rfl) fun tm => ?_
 refine CW.hide fun R0 hR0 => ?_
 have hN0 := sc_1000 hN
 have ci := c_ints (S := S) (N := N) H hN
 have s1 := fun args σ Q ha hq => c_same (S := S) H hN [] fNo args σ Q (by decide +kernel) (Nat.le_trans fNo_w (by decide)) ha hq
 have s2 := fun args σ Q ha hq => c_same (S := S) H hN [x1, x1, x2] fFlat args σ Q wFlat_u (Nat.le_trans fFlat_w (by decide)) ha hq
 have nx := fun (R : AExit → List AV → Sto → Prop) hR tm => sc_o (S := S) (N := N) (nm := scNames) (R := R) (σ := σ) H hN (by decide) scNames_size hR tm
 clear hN
 refine CW.seqK fun K hK => CW.region ?_
 simp (maxDischargeDepth := 16) [zY]
 refine hK _ _ ?_; clear hK K
 refine CW.seqK fun K hK => CW.region ?_
 simp (maxDischargeDepth := 16) [zY]
 refine CallW.prim (g := primRepeat) (prim_base H.rp H.rpb) (σ' := σ) (r := .ret (.lit (.string (zs 40)))) (by simp [primRepeat]) ?_
 simp (maxDischargeDepth := 16) [zY]
 refine CallW.prim (g := primRepeat) (prim_base H.rp H.rpb) (σ' := σ) (r := .ret (.lit (.string (zs 30)))) (by simp [primRepeat]) ?_
 have hz1 : (zs 30).size = 30 := rfl
 have hz2 : (⟨#[95, 51]⟩ : ByteArray).size = 2 := rfl
 have hz3 : (zs 30).size + 2 ≤ 140737488355328 := by omega
 simp (maxDischargeDepth := 16) [zY, hz3, hz2]
 refine hK _ _ ?_; clear hK K
 refine CW.keep [0, 1] fun tm => ?_
 simp only [sel, List.contains_cons, List.contains_nil, Bool.or_false, Nat.reduceBEq, Bool.false_eq_true, if_false, if_true, Bool.or_true, Bool.true_or]
 refine CW.seqK fun K hK => ?_
 refine nx _ ?_ _
 intro tm τ
 simp only [andThen]
 refine hK _ _ ?_; clear hK K
 refine CW.seqK fun K hK => CW.region ?_
 simp (maxDischargeDepth := 16) [zY]
 refine ci tX _ _ _ (by simp only [nrmR, AV.nrm]) fun hac => ?_
 simp (maxDischargeDepth := 16) [zY, Ty.cs]
 refine ci tX _ _ _ (by simp only [nrmR, AV.nrm]) fun hac => ?_
 simp (maxDischargeDepth := 16) [zY, Ty.cs]
 refine hK _ _ ?_; clear hK K
 refine CW.seqK fun K hK => CW.region ?_
 simp (maxDischargeDepth := 16) [zY]
 refine s1 _ _ _ (by simp [nrmR, nrmRR, AV.nrm, fNo, Fun.cs, txtR, prmR, tyR, rhsR, armR, expR, limR, trmR]) fun hac => ?_
 simp (maxDischargeDepth := 16) [zY]
 refine s2 _ _ _ (by simp [nrmR, AV.nrm, nrmRR, fFlat, yFlat, Fun.cs, txtR, Prm.cs, prmR, Ty.cs, tyR, rhsR, armR, expR, limR, trmR, Trm.cs]) fun hac => ?_
 simp (maxDischargeDepth := 16) [zY]
 refine call_sm () H.a (fun _ _ _ => rfl) (by simp only [nrmR]) trivial hN0 fun _ => ?_
 simp (maxDischargeDepth := 16) [zY]
 refine hK _ _ ?_; clear hK K
 exact CW.ret (hR0 _ _ _ ⟨.lit (.bool true), by simp [zA, omap, zB, zF, lk], Fgt.pure ⟨_, rfl⟩ (Frz.nrm rfl)⟩)
end
section
open Go.RowKit
variable {S : Sp} {N : Nat}
theorem SameFun_w (hc : S.code = codeP Tryz.prog) (hm : S.ms 27 = []) (h1 : S.sp 47 = some (sameF (fun l => .sl (prmR l) .no) prmN 6)) (h2 : S.sp 48 = some (sameF (fun t : Ty => .agg t.cs) Ty.n 4)) (h3 : S.sp 49 = some (sameF (fun t : Exp => .agg t.cs) Exp.n 9)) : SameOk S N 27 (fun t : Fun => .agg t.cs) Fun.n 11 := by
 intro a b σ hl hN
 refine JC.startF (fn := Tryz.f27) (codeOf hc Tryz.func27 rfl (by kernel_rfl)) rfl hm rfl (zL rfl) fun tm => ?_
 refine CW.hide fun R0 hR0 => ?_
 obtain ⟨nm, ps, ⟨rsfn, rsst, ⟨rsrfk, rsrfnm, rsrfng, rsrfdg, rsrfks⟩, rsps, rsrs⟩, ⟨bdk, bdnm, bdty, bdrh, ⟨bdamk, bdamnm, bdamng, bdamdg, bdamtr⟩, bdar, bdbd⟩⟩ := a; obtain ⟨wnm, wps, ⟨wrsfn, wrsst, ⟨wrsrfk, wrsrfnm, wrsrfng, wrsrfdg, wrsrfks⟩, wrsps, wrsrs⟩, ⟨wbdk, wbdnm, wbdty, wbdrh, ⟨wbdamk, wbdamnm, wbdamng, wbdamdg, wbdamtr⟩, wbdar, wbdbd⟩⟩ := b
 simp only [Fun.n] at hl hN
 simp only [Fun.cs]
 refine CW.seqK fun K hK => CW.region ?_
 simp (maxDischargeDepth := 16) [zY]
 refine hK _ _ ?_; clear hK K
 refine CW.seqK fun K hK => CW.region ?_
 rcases Classical.em (nm = wnm) with e1 | e1
 · subst e1
   simp (maxDischargeDepth := 16) [zY]
   refine call_same (ps) (wps) h1 (sl_inj prmR_inj) (by simp only [nrmR, AV.nrm, prmR_nrm]) (by omega) (by omega) fun _ => ?_
   cases hq2 : eqb (ps) (wps) with
   | true =>
    simp (maxDischargeDepth := 16) [zY]
    refine call_same (Ty.mk rsfn rsst (Trm.mk rsrfk rsrfnm rsrfng rsrfdg rsrfks) rsps rsrs) (Ty.mk wrsfn wrsst (Trm.mk wrsrfk wrsrfnm wrsrfng wrsrfdg wrsrfks) wrsps wrsrs) h2 (agg_inj Ty.inj) (by simp only [nrmR, AV.nrm, limR_nrm, trmR_nrm, prmR_nrm, tyR_nrm, Ty.cs]) (by simp only [Ty.n]; omega) (by simp only [Ty.n]; omega) fun _ => ?_
    cases hq3 : eqb (Ty.mk rsfn rsst (Trm.mk rsrfk rsrfnm rsrfng rsrfdg rsrfks) rsps rsrs) (Ty.mk wrsfn wrsst (Trm.mk wrsrfk wrsrfnm wrsrfng wrsrfdg wrsrfks) wrsps wrsrs) with
    | true =>
     simp (maxDischargeDepth := 16) [zY]
     refine call_same (Exp.mk bdk bdnm bdty bdrh (Atm.mk bdamk bdamnm bdamng bdamdg bdamtr) bdar bdbd) (Exp.mk wbdk wbdnm wbdty wbdrh (Atm.mk wbdamk wbdamnm wbdamng wbdamdg wbdamtr) wbdar wbdbd) h3 (agg_inj Exp.inj) (by simp only [nrmR, AV.nrm, tyR_nrm, rhsR_nrm, limR_nrm, armR_nrm, expR_nrm, Exp.cs]) (by simp only [Exp.n]; omega) (by simp only [Exp.n]; omega) fun _ => ?_
     cases hq4 : eqb (Exp.mk bdk bdnm bdty bdrh (Atm.mk bdamk bdamnm bdamng bdamdg bdamtr) bdar bdbd) (Exp.mk wbdk wbdnm wbdty wbdrh (Atm.mk wbdamk wbdamnm wbdamng wbdamdg wbdamtr) wbdar wbdbd) with
     | true =>
      simp (maxDischargeDepth := 16) [zY]
      refine hK _ _ ?_
      refine CW.ret (hR0 _ _ _ ⟨.lit (.bool true), by simp [zA, omap, zB, zF, lk], ?_⟩)
      cases eqb_iff.1 hq2
      cases eqb_iff.1 hq3
      cases eqb_iff.1 hq4
      rw [eqb_self]; exact done rfl rfl
     | false =>
      simp (maxDischargeDepth := 16) [zY]
      refine hK _ _ ?_
      refine CW.ret (hR0 _ _ _ ⟨.lit (.bool false), by simp [zA, omap, zB, zF, lk], ?_⟩)
      rw [eqb_ne (fun h => by cases h; exact eqb_no hq4 rfl)]; exact done rfl rfl
    | false =>
     simp (maxDischargeDepth := 16) [zY]
     refine hK _ _ ?_
     refine CW.ret (hR0 _ _ _ ⟨.lit (.bool false), by simp [zA, omap, zB, zF, lk], ?_⟩)
     rw [eqb_ne (fun h => by cases h; exact eqb_no hq3 rfl)]; exact done rfl rfl
   | false =>
    simp (maxDischargeDepth := 16) [zY]
    refine hK _ _ ?_
    refine CW.ret (hR0 _ _ _ ⟨.lit (.bool false), by simp [zA, omap, zB, zF, lk], ?_⟩)
    rw [eqb_ne (fun h => by cases h; exact eqb_no hq2 rfl)]; exact done rfl rfl
 · simp (maxDischargeDepth := 16) [zY, e1, beqL, eqb_ne e1]
   refine hK _ _ ?_
   refine CW.ret (hR0 _ _ _ ⟨.lit (.bool false), by simp [zA, omap, zB, zF, lk], ?_⟩)
   rw [eqb_ne (fun h => by cases h; exact e1 rfl)]; exact done rfl rfl
end
end Go.Proofs.YteajcnilihgheaaGreatDoor
