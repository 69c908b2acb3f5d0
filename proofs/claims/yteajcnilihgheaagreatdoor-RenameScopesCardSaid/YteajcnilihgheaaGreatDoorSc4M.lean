/-
 EV: the document's answer for layer 19: the renamer's state; a name that was not used.
-/
import Derived.Test.YteajcnilihgheaaGreatDoorSc3M
import Derived.Test.YteajcnilihgheaaGreatDoorRw5M
import Derived.Test.YteajcnilihgheaaGreatDoorEvDrawJM
import Derived.Test.YteajcnilihgheaaGreatDoorRw12M
import Derived.Test.YteajcnilihgheaaGreatDoorRw10M
namespace Go.Proofs.YteajcnilihgheaaGreatDoor
set_option maxRecDepth 100000
set_option maxHeartbeats 8000000
set_option linter.unusedSimpArgs false
set_option linter.unusedVariables false
section
open Go.RowKit
variable {S : Sp} {N : Nat}
structure Q9 where
 rid : Nat
 iid : Nat
structure S9 (q : Q9) (u : List ByteArray) (σ : Sto) : Prop where
 a : ∃ tok, σ[q.rid]? = some (.cells [.sl (txtR u) tok, .mp q.iid] 119) ∧ TokS σ u.length 9 tok
 i : ∃ is, σ[q.iid]? = some (.map .str is) ∧ isOk u is
def O9 (q : Q9) (σ : Sto) (p : Nat) : Prop := p = q.rid ∨ p = q.iid ∨ ∃ es x, σ[q.rid]? = some (.cells [.sl es (.own p), x] 119)
structure F9 (q : Q9) (V : Nat → Prop) (σ σ' : Sto) : Prop where
 len : σ.length ≤ σ'.length
 keep : ∀ p, p < σ.length → ¬ O9 q σ p → ¬ V p → σ'[p]? = σ[p]?
 own : ∀ p, O9 q σ' p → O9 q σ p ∨ σ.length ≤ p
theorem F9.refl (q : Q9) (V : Nat → Prop) (σ : Sto) : F9 q V σ σ := ⟨Nat.le_refl _, fun _ _ _ _ => rfl, fun _ h => .inl h⟩
theorem F9.trans {q : Q9} {V V' : Nat → Prop} {σ σ1 σ2 : Sto} (h : F9 q V σ σ1) (g : F9 q V' σ1 σ2) (hV : ∀ p, V' p → V p ∨ σ.length ≤ p) : F9 q V σ σ2 := by
 refine ⟨Nat.le_trans h.len g.len, fun p hp ho hv => ?_, fun p hp => ?_⟩
 · have h1 := h.len
   rw [g.keep p (by omega) (fun o => ?_) (fun v => ?_), h.keep p hp ho hv]
   · rcases h.own p o with o | o
     · exact ho o
     · omega
   · rcases hV p v with v | v
     · exact hv v
     · omega
 · have h1 := h.len
   rcases g.own p hp with o | o
   · exact h.own p o
   · exact .inr (by omega)
theorem F9.trans0 {q : Q9} {V : Nat → Prop} {σ σ1 σ2 : Sto} (h : F9 q V σ σ1) (g : F9 q V σ1 σ2) : F9 q V σ σ2 := h.trans g fun _ h => .inl h
section
variable {q : Q9} {u : List ByteArray} {σ σ' : Sto} {V : Nat → Prop}
theorem F9.not (h : F9 q V σ σ') {p : Nat} (hp : ¬ O9 q σ p) (hl : p < σ.length) : ¬ O9 q σ' p := fun o => by
 rcases h.own p o with o | o
 · exact hp o
 · omega
theorem o9_keep (h : ∀ p, O9 q σ p → σ'[p]? = σ[p]?) (p : Nat) : O9 q σ' p ↔ O9 q σ p := by
 have h1 := h q.rid (.inl rfl)
 unfold O9
 rw [h1]
theorem S9.keep (h : S9 q u σ) (hk : ∀ p, O9 q σ p → σ'[p]? = σ[p]?) : S9 q u σ' := by
 obtain ⟨tok, r, t⟩ := h.a
 obtain ⟨is, i1, i2⟩ := h.i
 refine ⟨⟨tok, by rw [hk _ (.inl rfl)]; exact r, ?_⟩, ⟨is, by rw [hk _ (.inr (.inl rfl))]; exact i1, i2⟩⟩
 rcases t with g | ⟨i, e1, e2⟩
 · exact .inl g
 · refine .inr ⟨i, e1, ?_⟩
   rw [e1] at r
   rw [hk i (.inr (.inr ⟨_, _, r⟩))]
   exact e2
theorem S9.lt (h : S9 q u σ) {p : Nat} (hp : O9 q σ p) : p < σ.length := by
 obtain ⟨tok, r, t⟩ := h.a
 obtain ⟨is, i1, i2⟩ := h.i
 rcases hp with rfl | rfl | ⟨_, _, e⟩
 · exact (List.getElem?_eq_some_iff.1 r).1
 · exact (List.getElem?_eq_some_iff.1 i1).1
 · rw [r] at e
   simp only [Option.some.injEq, AObj.cells.injEq, List.cons.injEq, AV.sl.injEq, and_true] at e
   rcases t with ⟨t1, _⟩ | ⟨i, t1, t2⟩
   · rw [t1] at e; cases e.1.2
   · rw [t1] at e
     cases e.1.2
     exact (List.getElem?_eq_some_iff.1 t2).1
theorem S9.new (h : S9 q u σ) : ¬ O9 q σ σ.length := fun e => by have := h.lt e; omega
theorem S9.app (h : S9 q u σ) (l : Sto) : S9 q u (σ ++ l) := h.keep fun p hp => List.getElem?_append_left (h.lt hp)
theorem S9.frA (h : S9 q u σ) (V : Nat → Prop) (l : Sto) : F9 q V σ (σ ++ l) :=
 ⟨by simp, fun p hp _ _ => List.getElem?_append_left hp, fun p hp => .inl ((o9_keep (fun p hp => List.getElem?_append_left (h.lt hp)) p).1 hp)⟩
theorem S9.set (h : S9 q u σ) {p : Nat} (hp : ¬ O9 q σ p) (o : AObj) : S9 q u (σ.set p o) := h.keep fun x hx => List.getElem?_set_ne (fun e => hp (by rw [e]; exact hx))
theorem S9.frS (h : S9 q u σ) {p : Nat} (hp : ¬ O9 q σ p) (hV : V p ∨ σ.length ≤ p) (o : AObj) : F9 q V σ (σ.set p o) :=
 ⟨by simp, fun x hx _ hv => List.getElem?_set_ne (fun e => by
  subst e
  rcases hV with hV | hV
  · exact hv hV
  · omega), fun x hx => .inl ((o9_keep (fun x hx => List.getElem?_set_ne (fun e => hp (by rw [e]; exact hx))) x).1 hx)⟩
end
structure H9 (S : Sp) : Prop where
 code : S.code = codeP Tryz.prog
 st : S.sp 12 = some stemF
 it : S.sp 93 = none
 itb : S.base 93 = some primItoa
 fr : S.sp 73 = none
 frb : S.base 73 = none
 frm : S.ms 73 = []
theorem fresh9_ev (H : H9 S) (q : Q9) (u : List ByteArray) (s : ByteArray) (σ : Sto) (h : S9 q u σ) (hl : u.length ≤ 1000000000) (hs : s.size ≤ 1000000000) (hN : 0 < N) :
    CallW Tryz.prog (S.E N) 73 [.ptr q.rid 0, .lit (.string s)] σ fun r σ' => r = .ret (.lit (.string (freshB u s))) ∧ S9 q (u ++ [freshB u s]) σ' ∧ F9 q nV σ σ' := by
 refine CallW.startF (fn := Tryz.f73) (prim_none H.fr H.frb) (codeOf H.code Tryz.func73 rfl (by kernel_rfl)) rfl H.frm rfl (zL rfl) fun tm => ?_
 refine CW.hide fun R0 hR0 => ?_
 obtain ⟨tok, r, t⟩ := h.a
 obtain ⟨is, i1, i2⟩ := h.i
 have hst : (⟨(stemL s.data.toList).toArray⟩ : ByteArray).size + (⟨#[95]⟩ : ByteArray).size ≤ 140737488355328 := by
  have h1 : (⟨(stemL s.data.toList).toArray⟩ : ByteArray).size = (stemL s.data.toList).length := by show (stemL s.data.toList).toArray.size = _; simp
  have h2 : (stemL s.data.toList).length ≤ 30 := by unfold stemL; dsimp only; rw [List.length_take]; omega
  have h3 : (⟨#[95]⟩ : ByteArray).size = 1 := rfl
  omega
 have hst' := eq_true hst
 have hbl : ((⟨(stemL s.data.toList).toArray⟩ : ByteArray) ++ ⟨#[95]⟩).size ≤ 31 := by
  have h1 : (⟨(stemL s.data.toList).toArray⟩ : ByteArray).size = (stemL s.data.toList).length := by show (stemL s.data.toList).toArray.size = _; simp
  have h2 : (stemL s.data.toList).length ≤ 30 := by unfold stemL; dsimp only; rw [List.length_take]; omega
  have h3 : (⟨#[95]⟩ : ByteArray).size = 1 := rfl
  rw [ByteArray.size_append]; omega
 have hB : ((⟨(stemL s.data.toList).toArray⟩ : ByteArray) ++ ⟨#[95]⟩).data.toList = beginL s := by
  rw [ByteArray.data_append]; simp [beginL]
 have hstem : ∀ (σ : Sto) (Q : ARes → Sto → Prop), (accW (S.E N) 12 [.lit (.string s)] σ (.ret (strV (stemL s.data.toList))) σ = .lcalls (fun _ => true) → Q (.ret (strV (stemL s.data.toList))) σ) → CallW Tryz.prog (S.E N) 12 [.lit (.string s)] σ Q := fun σ Q hq => call_sm s H.st str1_inj (by simp only [nrmR, AV.nrm]) (by omega) (by omega) hq
 unfold strV at hstem
 generalize (⟨(stemL s.data.toList).toArray⟩ : ByteArray) = q0 at *
 have hname : ∀ n : Nat, n ≤ 1000000001 → (q0 ++ ⟨#[95]⟩).size + (⟨(Lib.itoa (n : Int)).toArray⟩ : ByteArray).size ≤ 140737488355328 ∧ (q0 ++ ⟨#[95]⟩) ++ ⟨(Lib.itoa (n : Int)).toArray⟩ = nameN (beginL s) n := fun n hn => by
  have hln := Lib.itoa_length_le (n : Int) (by omega) (by omega)
  have h1 : (⟨(Lib.itoa (n : Int)).toArray⟩ : ByteArray).size = (Lib.itoa (n : Int)).length := by show (Lib.itoa (n : Int)).toArray.size = _; simp
  exact ⟨by omega, name_app hB n⟩
 have hit : ∀ n : Nat, n ≤ 1000000001 → ∀ (σ : Sto) (Q : ARes → Sto → Prop), (accW (S.E N) 93 [intV n] σ (.ret (.lit (.string ⟨(Lib.itoa (n : Int)).toArray⟩))) σ = .lcalls (fun _ => true) → Q (.ret (.lit (.string ⟨(Lib.itoa (n : Int)).toArray⟩))) σ) → CallW Tryz.prog (S.E N) 93 [intV n] σ Q := fun n hn σ Q hq => call_itoa H.it H.itb (n : Int) (by omega) (by omega) hq
 refine CW.seqK fun K hK => CW.region ?_
 simp (maxDischargeDepth := 16) [zY]
 refine hK _ _ ?_; clear hK K
 refine CW.seqK fun K hK => CW.region ?_
 simp (maxDischargeDepth := 16) [zY]
 refine hK _ _ ?_; clear hK K
 refine CW.seqK fun KL hKL => ?_
 refine CW.block (CW.hide fun R hR => ?_)
 refine CW.loopF (fun p : Nat => [(0, .ptr q.rid 0), (1, .lit (.string s)), (5, intV p)]) (fun _ => σ) (fun p => 1 ≤ p ∧ p ≤ u.length + 1 ∧ ∀ j, 1 ≤ j → j < p → nameN (beginL s) j ∈ u) (fun p => u.length + 2 - p) 1 (by simp [sub, lk]) rfl ⟨by omega, by omega, fun j a b => by omega⟩ ?_
 rintro n tm ⟨hn1, hn2, hj⟩
 obtain ⟨hsz, hnm⟩ := hname n (by omega)
 have hitn := hit n (by omega)
 have hsz' := eq_true hsz
 generalize (⟨(Lib.itoa (n : Int)).toArray⟩ : ByteArray) = qB at *
 have hri : q.rid ≠ q.iid := fun e => by rw [e, i1] at r; cases r
 rcases i2.2 (nameN (beginL s) n) with ⟨e1, e2⟩ | ⟨e1, e2⟩
 · have hw := wrap_succ (show n ≤ 1000000000000 by omega)
   refine CW.hide fun R2 hR2 => CW.seqK fun K4 hK4 => CW.seqK fun K5 hK5 => CW.draw (by kernel_rfl) ?_
   simp (maxDischargeDepth := 16) [zY, r]
   refine hstem _ _ fun hac => ?_
   simp (maxDischargeDepth := 16) [zY, hac, hst']
   refine hitn _ _ fun hac2 => ?_
   generalize hbB : q0 ++ ⟨#[95]⟩ = bB at *
   simp (maxDischargeDepth := 16) [zY, hac, hac2, hsz', hnm, i1, lookA, e2]
   refine ⟨drawOk_sim [q.rid, q.iid] [.pure, .pure, .pure, .reads 0, .pure, .lcalls (fun _ => true), .pure, .pure, .lcalls (fun _ => true), .pure, .reads 1] (.cons (by simp [hri]) (.cons (by simp) .nil)) (.cons .pure (.cons .pure (.cons .pure (.cons (.reads 0 _ rfl) (.cons .pure (.cons (.lcalls _ _ fun i a ha hi => rfl) (.cons .pure (.cons .pure (.cons (.lcalls _ _ fun i a ha hi => rfl) (.cons .pure (.cons (.reads 1 _ rfl) .nil))))))))))) (by kernel_rfl), hK5 _ _ ?_⟩
   refine CW.cond (t := true) (by simp [zT, zF, lk]) ?_
   refine CW.skip (hK4 _ _ ?_)
   refine CW.block ?_
   have hnu := used_le (u := u) (b := beginL s) (k := n) fun j a b => by
    rcases Nat.lt_or_ge j n with c | c
    · exact hj j a c
    · obtain rfl : j = n := by omega
      exact e1
   refine CW.region ?_
   simp (maxDischargeDepth := 16) [zY, hw]
   refine hR2 _ _ _ ⟨n + 1, _, _, rfl, by simp [sub, lk], rfl, ⟨by omega, by omega, fun j a b => ?_⟩, by omega⟩
   rcases Nat.lt_or_ge j n with c | c
   · exact hj j a c
   · obtain rfl : j = n := by omega
     exact e1
 · refine CW.hide fun R2 hR2 => CW.seqK fun K4 hK4 => CW.seqK fun K5 hK5 => CW.draw (by kernel_rfl) ?_
   simp (maxDischargeDepth := 16) [zY, r]
   refine hstem _ _ fun hac => ?_
   simp (maxDischargeDepth := 16) [zY, hac, hst']
   refine hitn _ _ fun hac2 => ?_
   generalize hbB : q0 ++ ⟨#[95]⟩ = bB at *
   simp (maxDischargeDepth := 16) [zY, hac, hac2, hsz', hnm, i1, lookA, e2]
   refine ⟨drawOk_sim [q.rid, q.iid] [.pure, .pure, .pure, .reads 0, .pure, .lcalls (fun _ => true), .pure, .pure, .lcalls (fun _ => true), .pure, .reads 1] (.cons (by simp [hri]) (.cons (by simp) .nil)) (.cons .pure (.cons .pure (.cons .pure (.cons (.reads 0 _ rfl) (.cons .pure (.cons (.lcalls _ _ fun i a ha hi => rfl) (.cons .pure (.cons .pure (.cons (.lcalls _ _ fun i a ha hi => rfl) (.cons .pure (.cons (.reads 1 _ rfl) .nil))))))))))) (by kernel_rfl), hK5 _ _ ?_⟩
   refine CW.cond (t := false) (by simp [zT, zF, lk]) ?_
   refine CW.exit (hR2 _ _ _ (hR _ _ _ ?_))
   simp only [outOf, if_true, andThen]
   refine hKL _ _ ?_
   clear hKL hR hR2 hK4 hK5 R2 R KL K4 K5 hac hac2
   have hfr : freshB u s = nameN (beginL s) n := by
    unfold freshB
    rw [leastN_eq (n := n) hn1 e1 hj]
   rw [hfr] at hR0
   refine CW.keep [0, 1, 5] fun tm => ?_
   simp only [sel, List.contains_cons, List.contains_nil, Bool.or_false, Nat.reduceBEq, Bool.false_eq_true, if_false, if_true, Bool.or_true, Bool.true_or]
   generalize nameN (beginL s) n = nm at *
   clear hname hit hB hj
   have hil : q.iid < σ.length := (List.getElem?_eq_some_iff.1 i1).1
   have hrl : q.rid < σ.length := (List.getElem?_eq_some_iff.1 r).1
   have r5 : (σ.set q.iid (.map .str (mapPut (.string nm) (.lit (.bool true)) is)))[q.rid]? = some (.cells [.sl (txtR u) tok, .mp q.iid] 119) := by rw [List.getElem?_set_ne hri.symm]; exact r
   have t5 : TokS (σ.set q.iid (.map .str (mapPut (.string nm) (.lit (.bool true)) is))) u.length 9 tok := by
    rcases t with g | ⟨i, g1, g2⟩
    · exact .inl g
    · exact .inr ⟨i, g1, by rw [List.getElem?_set_ne (fun e => by rw [← e, i1] at g2; cases g2)]; exact g2⟩
   have i5 : (σ.set q.iid (.map .str (mapPut (.string nm) (.lit (.bool true)) is)))[q.iid]? = some (.map .str (mapPut (.string nm) (.lit (.bool true)) is)) := List.getElem?_set_self hil
   have k5 : ∀ p, p ≠ q.iid → (σ.set q.iid (.map .str (mapPut (.string nm) (.lit (.bool true)) is)))[p]? = σ[p]? := fun p hp => List.getElem?_set_ne hp.symm
   have l5 : (σ.set q.iid (.map .str (mapPut (.string nm) (.lit (.bool true)) is))).length = σ.length := by simp
   refine CW.seqK fun K hK => CW.region ?_
   simp (maxDischargeDepth := 16) [zY]
   refine hstem _ _ fun _ => ?_
   simp (maxDischargeDepth := 16) [zY, hst', hbB]
   refine hitn _ _ fun _ => ?_
   simp (maxDischargeDepth := 16) [zY, hsz', hnm]
   refine hK _ _ ?_; clear hK K
   refine CW.seqK fun K hK => CW.region ?_
   simp (maxDischargeDepth := 16) [zY, r, i1, AV.notTup]
   refine hK _ _ ?_; clear hK K
   generalize σ.set q.iid (.map .str (mapPut (.string nm) (.lit (.bool true)) is)) = σ5 at *
   obtain ⟨t', σ6, acc, u1, u2, u3, u4, hap⟩ := app_own (P := Tryz.prog) (M := []) (σ := σ5) (t := 23) (e := 9) (k := 0) (by_ := 16) (es := txtR u) (fs := [[.lit (.string nm)]]) (by kernel_rfl) (by kernel_rfl) (by kernel_rfl) (by kernel_rfl) (by simpa using t5) (txtR_hd _) rfl (by simp only [txtR_len, List.length_singleton]; omega) (by simp only [txtR_len, List.length_singleton]; omega)
   rw [show txtR u ++ stripRows [[.lit (.string nm)]] = txtR (u ++ [nm]) by rw [txtR_app]; rfl] at hap
   have n1 : tok ≠ .own q.rid := t5.ne r5 fun m e => by cases e
   have n2 : tok ≠ .own q.iid := t5.ne i5 fun m e => by cases e
   have r6 := (u3 q.rid (by omega) n1).trans r5
   have i6 := (u3 q.iid (by omega) n2).trans i5
   have l6 := (List.getElem?_eq_some_iff.1 r6).1
   refine CW.seqK fun K hK => CW.region ?_
   simp (maxDischargeDepth := 16) [zY, r5, hap, r6]
   refine hK _ _ ?_; clear hK K
   refine CW.seqK fun K hK => CW.region ?_
   simp (maxDischargeDepth := 16) [zY]
   refine hK _ _ ?_; clear hK K
   have hnew : (σ6.set q.rid (.cells [.sl (txtR (u ++ [nm])) t', .mp q.iid] 119))[q.rid]? = some (.cells [.sl (txtR (u ++ [nm])) t', .mp q.iid] 119) := List.getElem?_set_self l6
   refine CW.ret (hR0 _ _ _ ⟨.lit (.string nm), by simp [zA, omap, zB, zF, lk], rfl, ⟨⟨t', hnew, ?_⟩, ⟨_, by rw [List.getElem?_set_ne hri]; exact i6, i2.put _⟩⟩, ⟨by rw [List.length_set]; omega, fun p hp ho _ => ?_, fun p hp => ?_⟩⟩)
   · rcases u1 with ⟨g1, g2⟩ | ⟨i, g1, g2⟩
     · exact .inl ⟨g1, by simp at g2⟩
     · refine .inr ⟨i, g1, ?_⟩
       rw [List.getElem?_set_ne (fun e => by rw [← e, r6] at g2; cases g2)]
       simpa using g2
   · have p1 : p ≠ q.rid := fun e => ho (.inl e)
     have p2 : p ≠ q.iid := fun e => ho (.inr (.inl e))
     have p3 : tok ≠ .own p := fun e => ho (.inr (.inr ⟨_, _, by rw [← e]; exact r⟩))
     rw [List.getElem?_set_ne p1.symm, u3 p (by omega) p3, k5 p p2]
   · rcases hp with e | e | ⟨es, x, e⟩
     · exact .inl (.inl e)
     · exact .inl (.inr (.inl e))
     · rw [hnew] at e
       simp only [Option.some.injEq, AObj.cells.injEq, List.cons.injEq, AV.sl.injEq, and_true] at e
       rcases u4 p e.1.2 with g | g
       · exact .inl (.inr (.inr ⟨_, _, by rw [← g]; exact r⟩))
       · exact .inr (by omega)
end
section
open Go.RowKit
variable {S : Sp} {N : Nat}
theorem F9.get {q : Q9} {V : Nat → Prop} {σ σ' : Sto} (h : F9 q V σ σ') {p : Nat} {o : AObj} (hp : ¬ O9 q σ p) (hv : ¬ V p) (ho : σ[p]? = some o) : σ'[p]? = some o := by
 rw [h.keep p (List.getElem?_eq_some_iff.1 ho).1 hp hv]; exact ho
theorem S9.newA {q : Q9} {u : List ByteArray} {σ : Sto} (h : S9 q u σ) (l : Sto) {p : Nat} (hp : σ.length ≤ p) : ¬ O9 q (σ ++ l) p := fun e => by
 have := h.lt ((o9_keep (fun p hp => List.getElem?_append_left (h.lt hp)) p).1 e)
 omega
structure H9K (S : Sp) : Prop extends H9 S where
 cy : S.sp 111 = some (copyF (fun t : Ty => .agg t.cs) Ty.n 4)
 tm : S.sp 112 = some term9F
 am : S.sp 76 = some atom9F
 nd : S.sp 75 = some and9F
 kd : S.ms 74 = []
 fn : S.ms 45 = []
 ex : S.ms 46 = []
 es : S.ms 78 = []
 rh : S.ms 77 = []
def K9 (S : Sp) (N : Nat) (f : FuncId) {T : Type} (cs : T → List AV) (ren : Bnd → List ByteArray → T → T × List ByteArray) (b : T → List ByteArray) (x : T) : Prop :=
 ∀ (q : Q9) (u : List ByteArray) (l : List (ByteArray × ByteArray)) (σ : Sto), S9 q u σ → l.length + (b x).length ≤ 1000000000 → u.length + (b x).length ≤ 1000000000 → (∀ s ∈ b x, s.size ≤ 1000000000) →
  JC Tryz.prog (S.E N) f [.ptr q.rid 0, .sl (bndR l) .no, .agg (cs x)] σ fun r σ' => r = .ret (.agg (cs (ren l.reverse u x).1)) ∧ S9 q (ren l.reverse u x).2 σ' ∧ F9 q nV σ σ'
def Fu9 (S : Sp) (N : Nat) (ps : List Prm) (rs : List Ty) : Prop :=
 ∀ (q : Q9) (u : List ByteArray) (l : List (ByteArray × ByteArray)) (σ : Sto), S9 q u σ → l.length + (bPs ps ++ bYs rs).length ≤ 1000000000 → u.length + (bPs ps ++ bYs rs).length ≤ 1000000000 → (∀ s ∈ bPs ps ++ bYs rs, s.size ≤ 1000000000) →
  JC Tryz.prog (S.E N) 45 [.ptr q.rid 0, .sl (bndR l) .no, .sl (prmR ps) .no, .sl (tyR rs) .no] σ fun r σ' => r = .ret (.tup [.sl (prmR (renPs NFp l.reverse u ps).1) .no, .sl (tyR (renYs NFp (renPs NFp l.reverse u ps).2.1 (renPs NFp l.reverse u ps).2.2 rs).1) .no, .sl (bndR (renPs NFp l.reverse u ps).2.1.reverse) .no]) ∧
   S9 q (renYs NFp (renPs NFp l.reverse u ps).2.1 (renPs NFp l.reverse u ps).2.2 rs).2 σ' ∧ F9 q nV σ σ'
theorem kind9_s (H : H9K S) (fn : Bool) (st0 : ByteArray) (rfk : Int) (rfnm : ByteArray) (rfng : Bool) (rfdg : List Int) (rfks : List Trm) (ps : List Prm) (rs : List Ty) (hn : (Ty.mk fn st0 (.mk rfk rfnm rfng rfdg rfks) ps rs).n ≤ 1000000000) (hN : 16 * (Ty.mk fn st0 (.mk rfk rfnm rfng rfdg rfks) ps rs).n + 4 < N) (hf : Fu9 S N ps rs) :
    K9 S N 74 Ty.cs (renY NFp) bY (.mk fn st0 (.mk rfk rfnm rfng rfdg rfks) ps rs) := by
 intro q u l0 σ h hl hu hb
 obtain ⟨l, hlr⟩ : ∃ l, l = l0.reverse := ⟨_, rfl⟩
 rw [← hlr]
 refine J.callNrm (R := fun r σ' => r = .ret (.agg (renY NFp l u (.mk fn st0 (.mk rfk rfnm rfng rfdg rfks) ps rs)).1.cs) ∧ S9 q (renY NFp l u (.mk fn st0 (.mk rfk rfnm rfng rfdg rfks) ps rs)).2 σ' ∧ F9 q nV σ σ') ?_ (fun v σ' h => ?_) (fun v σ' h => by cases h.1)
 rotate_left
 · obtain ⟨e, h2⟩ := h
   cases e
   exact ⟨by simp only [AV.nrm, Ty.nrm], h2⟩
 simp only [nrmR, AV.nrm, Ty.nrm, bndR_nrm]
 refine JC.startG (fn := Tryz.f74) (codeOf H.code Tryz.func74 rfl (by kernel_rfl)) rfl H.kd rfl (zL rfl) fun tm => ?_
 refine JD.hide fun R0 hR0 => ?_
 have hkp := fun (σ : Sto) (Q : ARes → Sto → Prop) (args : List AV) (ha : nrmR args = [.agg (Ty.mk fn st0 (.mk rfk rfnm rfng rfdg rfks) ps rs).cs]) (hq : Q (.ret (.agg (Ty.mk fn st0 (.mk rfk rfnm rfng rfdg rfks) ps rs).cs)) σ) => call_copy (P := Tryz.prog) (S := S) (N := N) (σ := σ) (Q := Q) (args := args) (Ty.mk fn st0 (.mk rfk rfnm rfng rfdg rfks) ps rs) H.cy (agg_inj Ty.inj) ha hn hN fun _ => hq
 simp only [Ty.cs] at hkp ⊢
 refine JD.seqK fun K hK => J.cw (CW.region ?_)
 simp (maxDischargeDepth := 16) [zY]
 refine hK _ _ ?_; clear hK K
 refine JD.seqK fun K hK => J.cw (CW.region ?_)
 simp (maxDischargeDepth := 16) [zY]
 refine hkp _ _ _ (by simp only [nrmR, AV.nrm, limR_nrm, trmR_nrm, prmR_nrm, tyR_nrm]) ?_
 simp (maxDischargeDepth := 16) [zY]
 refine hK _ _ ?_; clear hK K
 obtain ⟨g3, g4, g5, hla⟩ := box3 σ (.cells [.lit (.bool fn), .lit (.string st0), .lit (.int .u8 rfk), .lit (.string rfnm), .lit (.bool rfng), .sl (limR rfdg) .no, .sl (trmR rfks) .no, .sl (prmR ps) .no, .sl (tyR rs) .no] 34) (.cells [.lit (.bool false), .lit (.string ⟨#[]⟩), .lit (.int .u8 0), .lit (.string ⟨#[]⟩), .lit (.bool false), .sl [] .full, .sl [] .full, .sl [] .full, .sl [] .full] 34) (.cells [.lit (.bool fn), .lit (.string st0), .lit (.int .u8 rfk), .lit (.string rfnm), .lit (.bool rfng), .sl (limR rfdg) .no, .sl (trmR rfks) .no, .sl (prmR ps) .no, .sl (tyR rs) .no] 34)
 have hSa := h.app [.cells [.lit (.bool fn), .lit (.string st0), .lit (.int .u8 rfk), .lit (.string rfnm), .lit (.bool rfng), .sl (limR rfdg) .no, .sl (trmR rfks) .no, .sl (prmR ps) .no, .sl (tyR rs) .no] 34, .cells [.lit (.bool false), .lit (.string ⟨#[]⟩), .lit (.int .u8 0), .lit (.string ⟨#[]⟩), .lit (.bool false), .sl [] .full, .sl [] .full, .sl [] .full, .sl [] .full] 34, .cells [.lit (.bool fn), .lit (.string st0), .lit (.int .u8 rfk), .lit (.string rfnm), .lit (.bool rfng), .sl (limR rfdg) .no, .sl (trmR rfks) .no, .sl (prmR ps) .no, .sl (tyR rs) .no] 34]
 have hFa := h.frA nV [.cells [.lit (.bool fn), .lit (.string st0), .lit (.int .u8 rfk), .lit (.string rfnm), .lit (.bool rfng), .sl (limR rfdg) .no, .sl (trmR rfks) .no, .sl (prmR ps) .no, .sl (tyR rs) .no] 34, .cells [.lit (.bool false), .lit (.string ⟨#[]⟩), .lit (.int .u8 0), .lit (.string ⟨#[]⟩), .lit (.bool false), .sl [] .full, .sl [] .full, .sl [] .full, .sl [] .full] 34, .cells [.lit (.bool fn), .lit (.string st0), .lit (.int .u8 rfk), .lit (.string rfnm), .lit (.bool rfng), .sl (limR rfdg) .no, .sl (trmR rfks) .no, .sl (prmR ps) .no, .sl (tyR rs) .no] 34]
 have hno := fun p hp => h.newA [.cells [.lit (.bool fn), .lit (.string st0), .lit (.int .u8 rfk), .lit (.string rfnm), .lit (.bool rfng), .sl (limR rfdg) .no, .sl (trmR rfks) .no, .sl (prmR ps) .no, .sl (tyR rs) .no] 34, .cells [.lit (.bool false), .lit (.string ⟨#[]⟩), .lit (.int .u8 0), .lit (.string ⟨#[]⟩), .lit (.bool false), .sl [] .full, .sl [] .full, .sl [] .full, .sl [] .full] 34, .cells [.lit (.bool fn), .lit (.string st0), .lit (.int .u8 rfk), .lit (.string rfnm), .lit (.bool rfng), .sl (limR rfdg) .no, .sl (trmR rfks) .no, .sl (prmR ps) .no, .sl (tyR rs) .no] 34] (p := p) hp
 generalize hP : σ.length = P at *
 generalize σ ++ [_, _, _] = σa at *
 refine JD.keep [0, 1, 5, 6, 7] fun tm => ?_
 simp only [sel, List.contains_cons, List.contains_nil, Bool.or_false, Nat.reduceBEq, Bool.false_eq_true, if_false, if_true, Bool.or_true, Bool.true_or]
 refine JD.seqK fun KA hKA => ?_
 cases fn with
 | true =>
  refine JD.seqK fun K hK => J.cw (CW.region ?_)
  simp (maxDischargeDepth := 16) [zY, g3]
  refine hK _ _ ?_; clear hK K
  refine JD.cond (t := true) (by simp [zT, zF, lk]) ?_
  refine JD.seqK fun K hK => JD.region ?_
  simp (maxDischargeDepth := 16) [zY, symL, g3]
  have e1 : renY NFp l u (.mk true st0 (.mk rfk rfnm rfng rfdg rfks) ps rs) = (.mk true st0 (.mk rfk rfnm rfng rfdg rfks) (renPs NFp l u ps).1 (renYs NFp (renPs NFp l u ps).2.1 (renPs NFp l u ps).2.2 rs).1, (renYs NFp (renPs NFp l u ps).2.1 (renPs NFp l u ps).2.2 rs).2) := by rw [renY]; rfl
  have hbb : bY (.mk true st0 (.mk rfk rfnm rfng rfdg rfks) ps rs) = bPs ps ++ bYs rs := by rw [bY]; rfl
  rw [hbb] at hl hu hb
  rw [e1] at hR0
  simp only [Ty.n] at hn
  have hff := hf q u l0 σa hSa hl hu hb
  rw [← hlr] at hff
  refine hff.mono ?_
  rintro r σb ⟨rfl, hSb, hFb⟩
  generalize (renPs NFp l u ps).2.1.reverse = lx at *
  generalize (renPs NFp l u ps).1 = ps' at *
  generalize (renYs NFp (renPs NFp l u ps).2.1 (renPs NFp l u ps).2.2 rs).1 = rs' at *
  generalize (renYs NFp (renPs NFp l u ps).2.1 (renPs NFp l u ps).2.2 rs).2 = us at *
  have hbl := hFb.len
  have b4 := hFb.get (hno (P + 1) (by omega)) (fun x => x) g4
  have b5 := hFb.get (hno (P + 2) (by omega)) (fun x => x) g5
  have n4 := hFb.not (hno (P + 1) (by omega)) (by omega)
  have n5 := hFb.not (hno (P + 2) (by omega)) (by omega)
  have s5 : ∀ o, (σb.set (P + 2) o)[P + 2]? = some o := fun o => List.getElem?_set_self (by omega)
  have s4 : ∀ o, (σb.set (P + 2) o)[P + 1]? = some (.cells [.lit (.bool false), .lit (.string ⟨#[]⟩), .lit (.int .u8 0), .lit (.string ⟨#[]⟩), .lit (.bool false), .sl [] .full, .sl [] .full, .sl [] .full, .sl [] .full] 34) := fun o => by rw [List.getElem?_set_ne (by omega)]; exact b4
  simp (maxDischargeDepth := 16) [zY, symL, b5, s5]
  refine hK _ _ ?_; clear hK K
  refine JD.seqK fun K hK => J.cw (CW.region ?_)
  simp (maxDischargeDepth := 16) [zY, s5, s4]
  refine hK _ _ ?_; clear hK K
  have hS1 := hSb.set n5 (.cells [.lit (.bool true), .lit (.string st0), .lit (.int .u8 rfk), .lit (.string rfnm), .lit (.bool rfng), .sl (limR rfdg) .no, .sl (trmR rfks) .no, .sl (prmR ps') .no, .sl (tyR rs') .no] 34)
  have hF1 := hSb.frS (V := fun p => P ≤ p) n5 (.inl (by show P ≤ P + 2; omega)) (.cells [.lit (.bool true), .lit (.string st0), .lit (.int .u8 rfk), .lit (.string rfnm), .lit (.bool rfng), .sl (limR rfdg) .no, .sl (trmR rfks) .no, .sl (prmR ps') .no, .sl (tyR rs') .no] 34)
  have n4' := hF1.not n4 (by omega)
  have hS2 := hS1.set n4' (.cells [.lit (.bool true), .lit (.string st0), .lit (.int .u8 rfk), .lit (.string rfnm), .lit (.bool rfng), .sl (limR rfdg) .no, .sl (trmR rfks) .no, .sl (prmR ps') .no, .sl (tyR rs') .no] 34)
  have hF2 := hS1.frS (V := fun p => P ≤ p) n4' (.inl (by show P ≤ P + 1; omega)) (.cells [.lit (.bool true), .lit (.string st0), .lit (.int .u8 rfk), .lit (.string rfnm), .lit (.bool rfng), .sl (limR rfdg) .no, .sl (trmR rfks) .no, .sl (prmR ps') .no, .sl (tyR rs') .no] 34)
  have r4 : ((σb.set (P + 2) (.cells [.lit (.bool true), .lit (.string st0), .lit (.int .u8 rfk), .lit (.string rfnm), .lit (.bool rfng), .sl (limR rfdg) .no, .sl (trmR rfks) .no, .sl (prmR ps') .no, .sl (tyR rs') .no] 34)).set (P + 1) (.cells [.lit (.bool true), .lit (.string st0), .lit (.int .u8 rfk), .lit (.string rfnm), .lit (.bool rfng), .sl (limR rfdg) .no, .sl (trmR rfks) .no, .sl (prmR ps') .no, .sl (tyR rs') .no] 34))[P + 1]? = some (.cells [.lit (.bool true), .lit (.string st0), .lit (.int .u8 rfk), .lit (.string rfnm), .lit (.bool rfng), .sl (limR rfdg) .no, .sl (trmR rfks) .no, .sl (prmR ps') .no, .sl (tyR rs') .no] 34) := List.getElem?_set_self (by simp; omega)
  refine JD.ret (hR0 _ _ _ ⟨.agg [.lit (.bool true), .lit (.string st0), .lit (.int .u8 rfk), .lit (.string rfnm), .lit (.bool rfng), .sl (limR rfdg) .no, .sl (trmR rfks) .no, .sl (prmR ps') .no, .sl (tyR rs') .no], by simp [zA, omap, zC, zX, r4], by simp only [Ty.cs], hS2, ?_⟩)
  exact (hFa.trans0 hFb).trans (hF1.trans0 hF2) fun p hp => .inr (by omega)
 | false =>
  refine JD.seqK fun K hK => J.cw (CW.region ?_)
  simp (maxDischargeDepth := 16) [zY, g3]
  refine hK _ _ ?_; clear hK K
  refine JD.cond (t := false) (by simp [zT, zF, lk]) ?_
  refine JD.skip (hKA _ _ ?_)
  have e1 : renY NFp l u (.mk false st0 (.mk rfk rfnm rfng rfdg rfks) ps rs) = (.mk false st0 (renT l (.mk rfk rfnm rfng rfdg rfks)) ps rs, u) := by rw [renY]; rfl
  rw [e1] at hR0
  have hll0 : l0.length ≤ 1000000000 := by omega
  have hte := fun (σ : Sto) (Q : ARes → Sto → Prop) (args : List AV) (ha : nrmR args = [.sl (bndR l0) .no, .agg (Trm.mk rfk rfnm rfng rfdg rfks).cs]) (hq : Q (.ret (.agg (renT l (.mk rfk rfnm rfng rfdg rfks)).cs)) σ) => call_sm (P := Tryz.prog) (S := S) (N := N) (σ := σ) (Q := Q) (args := args) (l0, Trm.mk rfk rfnm rfng rfdg rfks) H.tm term9_inj ha ⟨hll0, by simp only [Ty.n] at hn; simp only [Trm.n]; omega⟩ (by simp only [Ty.n] at hN; simp only [Trm.n]; omega) fun _ => by dsimp only; rw [← hlr]; exact hq
  generalize renT l (.mk rfk rfnm rfng rfdg rfks) = t' at *
  obtain ⟨rfk', rfnm', rfng', rfdg', rfks'⟩ := t'
  simp only [Trm.cs] at hte
  have b5 := g5
  have s5 : ∀ o, (σa.set (P + 2) o)[P + 2]? = some o := fun o => List.getElem?_set_self (by omega)
  have s4 : ∀ o, (σa.set (P + 2) o)[P + 1]? = some (.cells [.lit (.bool false), .lit (.string ⟨#[]⟩), .lit (.int .u8 0), .lit (.string ⟨#[]⟩), .lit (.bool false), .sl [] .full, .sl [] .full, .sl [] .full, .sl [] .full] 34) := fun o => by rw [List.getElem?_set_ne (by omega)]; exact g4
  refine JD.seqK fun K hK => J.cw (CW.region ?_)
  simp (maxDischargeDepth := 16) [zY, g3]
  refine hte _ _ _ (by simp only [nrmR, AV.nrm, limR_nrm, trmR_nrm, bndR_nrm]) ?_
  simp (maxDischargeDepth := 16) [zY, g5]
  refine hK _ _ ?_; clear hK K
  refine JD.seqK fun K hK => J.cw (CW.region ?_)
  simp (maxDischargeDepth := 16) [zY, s5, s4]
  refine hK _ _ ?_; clear hK K
  have n5 := hno (P + 2) (by omega)
  have n4 := hno (P + 1) (by omega)
  have hS1 := hSa.set n5 (.cells [.lit (.bool false), .lit (.string st0), .lit (.int .u8 rfk'), .lit (.string rfnm'), .lit (.bool rfng'), .sl (limR rfdg') .no, .sl (trmR rfks') .no, .sl (prmR ps) .no, .sl (tyR rs) .no] 34)
  have hF1 := hSa.frS (V := fun p => P ≤ p) n5 (.inl (by show P ≤ P + 2; omega)) (.cells [.lit (.bool false), .lit (.string st0), .lit (.int .u8 rfk'), .lit (.string rfnm'), .lit (.bool rfng'), .sl (limR rfdg') .no, .sl (trmR rfks') .no, .sl (prmR ps) .no, .sl (tyR rs) .no] 34)
  have n4' := hF1.not n4 (by omega)
  have hS2 := hS1.set n4' (.cells [.lit (.bool false), .lit (.string st0), .lit (.int .u8 rfk'), .lit (.string rfnm'), .lit (.bool rfng'), .sl (limR rfdg') .no, .sl (trmR rfks') .no, .sl (prmR ps) .no, .sl (tyR rs) .no] 34)
  have hF2 := hS1.frS (V := fun p => P ≤ p) n4' (.inl (by show P ≤ P + 1; omega)) (.cells [.lit (.bool false), .lit (.string st0), .lit (.int .u8 rfk'), .lit (.string rfnm'), .lit (.bool rfng'), .sl (limR rfdg') .no, .sl (trmR rfks') .no, .sl (prmR ps) .no, .sl (tyR rs) .no] 34)
  have r4 : ((σa.set (P + 2) (.cells [.lit (.bool false), .lit (.string st0), .lit (.int .u8 rfk'), .lit (.string rfnm'), .lit (.bool rfng'), .sl (limR rfdg') .no, .sl (trmR rfks') .no, .sl (prmR ps) .no, .sl (tyR rs) .no] 34)).set (P + 1) (.cells [.lit (.bool false), .lit (.string st0), .lit (.int .u8 rfk'), .lit (.string rfnm'), .lit (.bool rfng'), .sl (limR rfdg') .no, .sl (trmR rfks') .no, .sl (prmR ps) .no, .sl (tyR rs) .no] 34))[P + 1]? = some (.cells [.lit (.bool false), .lit (.string st0), .lit (.int .u8 rfk'), .lit (.string rfnm'), .lit (.bool rfng'), .sl (limR rfdg') .no, .sl (trmR rfks') .no, .sl (prmR ps) .no, .sl (tyR rs) .no] 34) := List.getElem?_set_self (by simp; omega)
  refine JD.ret (hR0 _ _ _ ⟨.agg [.lit (.bool false), .lit (.string st0), .lit (.int .u8 rfk'), .lit (.string rfnm'), .lit (.bool rfng'), .sl (limR rfdg') .no, .sl (trmR rfks') .no, .sl (prmR ps) .no, .sl (tyR rs) .no], by simp [zA, omap, zC, zX, r4], by simp only [Ty.cs], hS2, ?_⟩)
  exact hFa.trans (hF1.trans0 hF2) fun p hp => .inr (by omega)
end
end Go.Proofs.YteajcnilihgheaaGreatDoor
