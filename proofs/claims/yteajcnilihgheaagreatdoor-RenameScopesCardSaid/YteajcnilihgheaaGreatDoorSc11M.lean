/-
 EV: the document's answer for layer 19: the arms within expr.
-/
import Derived.Test.YteajcnilihgheaaGreatDoorSc9M
import Derived.Test.YteajcnilihgheaaGreatDoorTBaseM
namespace Go.Proofs.YteajcnilihgheaaGreatDoor
set_option maxRecDepth 100000
set_option maxHeartbeats 8000000
set_option linter.unusedSimpArgs false
set_option linter.unusedVariables false
section
open Go.RowKit
variable {S : Sp} {N : Nat}
theorem renNs_app (l : Bnd) : ∀ (u : List ByteArray) (a b : List ByteArray), renNs NFp l u (a ++ b) = ((renNs NFp l u a).1 ++ (renNs NFp (renNs NFp l u a).2.1 (renNs NFp l u a).2.2 b).1, (renNs NFp (renNs NFp l u a).2.1 (renNs NFp l u a).2.2 b).2) := by
 intro u a
 induction a generalizing l u with
 | nil => intro b; simp only [renNs, List.nil_append]
 | cons p a ih => intro b; rw [List.cons_append, renNs, ih, renNs]; rfl
theorem renNs_take (l : Bnd) (u : List ByteArray) {a : List ByteArray} {i : Nat} (h : i < a.length) : renNs NFp l u (a.take (i + 1)) = ((renNs NFp l u (a.take i)).1 ++ [freshB (renNs NFp l u (a.take i)).2.2 a[i]], ((a[i], freshB (renNs NFp l u (a.take i)).2.2 a[i]) :: (renNs NFp l u (a.take i)).2.1, (renNs NFp l u (a.take i)).2.2 ++ [freshB (renNs NFp l u (a.take i)).2.2 a[i]])) := by
 rw [List.take_succ_eq_append_getElem h, renNs_app, renNs, renNs]; rfl
theorem renNs_len (l : Bnd) (u : List ByteArray) (a : List ByteArray) : (renNs NFp l u a).1.length = a.length ∧ (renNs NFp l u a).2.1.length = l.length + a.length ∧ (renNs NFp l u a).2.2.length = u.length + a.length := by
 induction a generalizing l u with
 | nil => simp [renNs]
 | cons p a ih =>
  obtain ⟨h1, h2, h3⟩ := ih (l := (p, NFp.f u p) :: l) (u := u ++ [NFp.f u p])
  rw [renNs]
  refine ⟨by rw [List.length_cons, h1, List.length_cons], by rw [h2, List.length_cons, List.length_cons]; omega, by rw [h3, List.length_append, List.length_singleton, List.length_cons]; omega⟩
structure A9 (q : Q9) (u : List ByteArray) (σ σ1 : Sto) (P : Nat) (bx vs : List AV) (mA : Nat) (tokA : Tok) (Y : Nat) (ys : List AV) (m : Nat) (tok : Tok) : Prop where
 w : W9 q u σ σ1 P 49 bx vs 11
 k : K9t q P σ1 mA 56 tokA
 y : σ1[Y]? = some (.cells ys 56)
 n : ¬ O9 q σ1 Y
 g : P + 2 < Y
 t : G9 q (List.replicate (Y + 1) .dead) σ1 m 9 tok
section
variable {q : Q9} {u u' : List ByteArray} {σ σ1 σ2 : Sto} {P mA Y m m' : Nat} {bx vs ys ws : List AV} {tokA tok tok' : Tok}
theorem A9.gt (h : A9 q u σ σ1 P bx vs mA tokA Y ys m tok) {p : Nat} (hp : tok = .own p) : Y < p := by
 have := (h.t.o p hp).2
 rw [List.length_replicate] at this
 omega
theorem A9.ne (h : A9 q u σ σ1 P bx vs mA tokA Y ys m tok) {p : Nat} (hp : tok = .own p) : tokA ≠ .own p := fun e => by
 rcases h.t.t with ⟨g, _⟩ | ⟨i, g1, g2⟩
 · rw [g] at hp; cases hp
 · rw [g1] at hp; cases hp
   rcases h.k.t with ⟨k, _⟩ | ⟨j, k1, k2⟩
   · rw [k] at e; cases e
   · rw [k1] at e; cases e
     rw [g2] at k2
     cases k2
theorem A9.lt (h : A9 q u σ σ1 P bx vs mA tokA Y ys m tok) : Y < σ1.length := (List.getElem?_eq_some_iff.1 h.y).1
theorem A9.go (h : A9 q u σ σ1 P bx vs mA tokA Y ys m tok) (hs : S9 q u' σ2) (hf : F9 q nV σ1 σ2) : A9 q u' σ σ2 P bx vs mA tokA Y ys m tok :=
 { w := h.w.go hs hf fun p hp => hp.elim, k := h.k.keep hf fun p h => h.elim, y := hf.get h.n (fun x => x) h.y, n := hf.not h.n h.lt, g := h.g, t := h.t.keep hf fun p h => h.elim }
theorem A9.app (h : A9 q u σ σ1 P bx vs mA tokA Y ys m tok) (g1 : G9 q (List.replicate (Y + 1) .dead) σ2 m' 9 tok') (g2 : S9 q u σ2) (g3 : F9 q (fun p => tok = .own p) σ1 σ2) : A9 q u σ σ2 P bx vs mA tokA Y ys m' tok' :=
 { w := h.w.go g2 g3 fun p hp => Nat.lt_trans h.g (h.gt hp), k := h.k.keep g3 fun p hp => h.ne hp, y := g3.get h.n (fun x => by have := h.gt x; omega) h.y, n := g3.not h.n h.lt, g := h.g, t := g1 }
theorem A9.put (h : A9 q u σ σ1 P bx vs mA tokA Y ys m tok) (ws : List AV) : A9 q u σ (σ1.set Y (.cells ws 56)) P bx vs mA tokA Y ws m tok := by
 have g := h.w.s.frS (V := fun p => p = Y) h.n (.inl rfl) (.cells ws 56)
 have hyA : tokA ≠ .own Y := h.k.t.ne h.y fun m e => by cases e
 exact { w := h.w.go (h.w.s.set h.n _) g fun p hp => by subst hp; exact h.g, k := h.k.keep g fun p hp => by subst hp; exact hyA, y := List.getElem?_set_self h.lt, n := g.not h.n h.lt, g := h.g, t := h.t.keep g fun p hp e => by subst hp; have := h.gt e; omega }
theorem A9.new (h : W9 q u σ σ1 P 49 bx vs 11) (k : K9t q P σ1 mA 56 tokA) (ys : List AV) : A9 q u σ (σ1 ++ [.cells ys 56]) P bx vs mA tokA σ1.length ys 0 .full :=
 { w := h.app _, k := h.appK _ k, y := by simp, n := h.s.newA _ (Nat.le_refl _), g := h.lt, t := G9.nil _ _ _ _ }
end
theorem len11 {z : List AV} (h : z.length = 11) : ∃ a b c d e f g i j k l, z = [a, b, c, d, e, f, g, i, j, k, l] := by
 match z, h with
 | [a, b, c, d, e, f, g, i, j, k, l], _ => exact ⟨a, b, c, d, e, f, g, i, j, k, l, rfl⟩
theorem expr9_7 (H : H9K S) {q : Q9} {u : List ByteArray} {σ σ1 : Sto} {P : Nat} {c0 c1 c2 c3 c4 c5 c6 c7 c8 c10 v0 v1 v2 v3 v4 v5 v6 v7 v8 v10 : AV} {ts : List Arm} {l : List (ByteArray × ByteArray)} (h : W9 q u σ σ1 P 49 [c0, c1, c2, c3, c4, c5, c6, c7, c8, .sl (armR ts) .no, c10] [v0, v1, v2, v3, v4, v5, v6, v7, v8, .sl [] .full, v10] 11) (hone : ∀ cn ns bd, Arm.mk cn ns bd ∈ ts → Es9 S N bd ∧ ns.length ≤ 1000000000) (hlen : ts.length ≤ 1000000000) (hN : 0 < N) (hl : l.length + (ts.flatMap bM).length ≤ 1000000000) (hu : u.length + (ts.flatMap bM).length ≤ 1000000000) (hb : ∀ s ∈ ts.flatMap bM, s.size ≤ 1000000000)
    {R0 : AExit → List AV → Sto → Prop} (next : ∀ tok σ2 tm, W9 q (foldR (renM NFp l.reverse) u ts).2 σ σ2 P 49 [c0, c1, c2, c3, c4, c5, c6, c7, c8, .sl (armR ts) .no, c10] [v0, v1, v2, v3, v4, v5, v6, v7, v8, .sl (armR (foldR (renM NFp l.reverse) u ts).1) tok, v10] 11 → JD Tryz.prog (S.E N) [] (tailC 8 expr9B) (fm 162 [(5, .ptr P 0), (6, .ptr (P + 1) 0), (7, .ptr (P + 2) 0)] tm) σ2 R0) (tm : List AV) :
    JD Tryz.prog (S.E N) [] (tailC 7 expr9B) (fm 162 [(0, .ptr q.rid 0), (1, .sl (bndR l) .no), (5, .ptr P 0), (6, .ptr (P + 1) 0), (7, .ptr (P + 2) 0)] tm) σ1 R0 := by
 have hbl : ∀ u x, (renM NFp l.reverse u x).2.length = u.length + (bM x).length := fun u x => (anew_M l.reverse u x).len
 refine JD.seqK fun KL hKL => ?_
 refine JD.seqK fun K hK => J.cw (CW.region ?_)
 simp (maxDischargeDepth := 16) [zY]
 refine hK _ _ ?_; clear hK K
 refine JD.block (JD.hide fun R1 hR1 => ?_)
 refine JD.loopF (fun p : Nat × Tok × Sto => [(0, .ptr q.rid 0), (1, .sl (bndR l) .no), (5, .ptr P 0), (6, .ptr (P + 1) 0), (7, .ptr (P + 2) 0), (13, intV p.1)]) (fun p => p.2.2) (fun p => p.1 ≤ ts.length ∧ W9 q (foldR (renM NFp l.reverse) u (ts.take p.1)).2 σ p.2.2 P 49 [c0, c1, c2, c3, c4, c5, c6, c7, c8, .sl (armR ts) .no, c10] [v0, v1, v2, v3, v4, v5, v6, v7, v8, .sl (armR (foldR (renM NFp l.reverse) u (ts.take p.1)).1) p.2.1, v10] 11 ∧ K9t q P p.2.2 (p.1 * 3) 56 p.2.1) (fun p => ts.length - p.1) (0, .full, σ1) (by simp [sub, lk]) rfl ⟨by simp, by simpa [foldR, armR] using h, by simpa using K9t.nil q P σ1 56⟩ ?_
 clear h
 rintro ⟨i, tok, σ2⟩ tm ⟨hi, hH, hT⟩ R2 hR2 hR2x
 dsimp only at hi hH hT hR2 ⊢
 refine JD.seqK fun K3 hK3 => ?_
 have a0 := hH.a0
 rcases Nat.lt_or_ge i ts.length with hlt | hge
 · have ha := armR_get hlt
   have hft := foldR_take (renM NFp l.reverse) u hlt
   have hfl : (foldR (renM NFp l.reverse) u (ts.take i)).1.length = i := by rw [foldR_len]; exact List.length_take_of_le hi
   obtain ⟨hle, hmem⟩ := foldR_le hbl u hlt
   have hbs : (bM ts[i]).length ≤ (ts.flatMap bM).length := by have := (flat_take (b := bM) hlt).2; omega
   have hin : ts[i] ∈ ts := List.getElem_mem hlt
   refine JD.seqK fun K hK => J.cw (CW.region ?_)
   simp (maxDischargeDepth := 16) [zY, a0, hlt]
   refine hK _ _ ?_; clear hK K
   refine JD.cond (t := true) (by simp [zT, zF, lk]) ?_
   refine JD.skip (hK3 _ _ ?_)
   refine JD.keep [0, 1, 5, 6, 7, 13] fun tm => ?_
   simp only [sel, List.contains_cons, List.contains_nil, Bool.or_false, Nat.reduceBEq, Bool.false_eq_true, if_false, if_true, Bool.or_true, Bool.true_or]
   refine JD.seqK fun K5 hK5 => JD.block ?_
   have fin : ∀ (y : Arm) (u2 : List ByteArray) (tok' : Tok) (σ5 : Sto) (fr : List (Nat × AV)) (tm : List AV), foldR (renM NFp l.reverse) u (ts.take (i + 1)) = ((foldR (renM NFp l.reverse) u (ts.take i)).1 ++ [y], u2) → W9 q u2 σ σ5 P 49 [c0, c1, c2, c3, c4, c5, c6, c7, c8, .sl (armR ts) .no, c10] [v0, v1, v2, v3, v4, v5, v6, v7, v8, .sl (armR ((foldR (renM NFp l.reverse) u (ts.take i)).1 ++ [y])) tok', v10] 11 → K9t q P σ5 ((i + 1) * 3) 56 tok' → sub [(0, .ptr q.rid 0), (1, .sl (bndR l) .no), (5, .ptr P 0), (6, .ptr (P + 1) 0), (7, .ptr (P + 2) 0), (13, intV i)] fr → K5 (fm 162 fr tm) σ5 := by
    intro y u2 tok' σ5 fr tm e g1 g2 hfr
    rw [fm_sub hfr]
    refine hK5 _ _ (J.cw (CW.region ?_))
    simp (maxDischargeDepth := 16) [zY, wrap_succ (show i ≤ 1000000000000 by omega)]
    refine hR2 _ _ ⟨(i + 1, tok', σ5), _, _, rfl, by simp [sub, lk], rfl, ⟨hlt, ?_, g2⟩, show ts.length - (i + 1) < ts.length - i by omega⟩
    dsimp only
    rw [e]; exact g1
   clear hR2 hR2x hK5 hK3
   replace fin := fun tok' σ5 fr tm => fin _ _ tok' σ5 fr tm hft
   generalize ts[i] = x at *
   generalize (foldR (renM NFp l.reverse) u (ts.take i)).2 = ui at *
   generalize (foldR (renM NFp l.reverse) u (ts.take i)).1 = oi at *
   obtain ⟨cn, ns, bd⟩ := x
   obtain ⟨he, hns⟩ := hone cn ns bd hin
   rw [show bM (.mk cn ns bd) = ns ++ bEs bd by rw [bM]] at hbs hle hmem
   rw [List.length_append] at hbs hle
   rw [renM] at fin
   dsimp only at fin
   simp only [Arm.cs] at ha
   refine JD.seqK fun K hK => J.cw (CW.region ?_)
   simp (maxDischargeDepth := 16) [zY, a0, ha]
   refine hK _ _ ?_; clear hK K
   have hA := A9.new hH hT [.lit (.string cn), .sl [] .full, .sl [] .full]
   clear hH hT
   generalize hY : σ2.length = Y at *
   generalize σ2 ++ [AObj.cells [.lit (.string cn), .sl [] .full, .sl [] .full] 56] = σ3 at *
   refine JD.seqK fun K hK => J.cw (CW.region ?_)
   simp (maxDischargeDepth := 16) [zY]
   refine hK _ _ ?_; clear hK K
   refine JD.keep [0, 1, 5, 6, 7, 13, 14, 15] fun tm => ?_
   simp only [sel, List.contains_cons, List.contains_nil, Bool.or_false, Nat.reduceBEq, Bool.false_eq_true, if_false, if_true, Bool.or_true, Bool.true_or]
   refine JD.seqK fun KN hKN => ?_
   refine JD.seqK fun K hK => J.cw (CW.region ?_)
   simp (maxDischargeDepth := 16) [zY]
   refine hK _ _ ?_; clear hK K
   refine JD.block (JD.hide fun RN hRN => ?_)
   have hbn : ns.length + (bEs bd).length ≤ 1000000000 := by omega
   refine JD.loopF (fun p : Nat × Tok × Sto => [(0, .ptr q.rid 0), (1, .sl (bndR l) .no), (5, .ptr P 0), (6, .ptr (P + 1) 0), (7, .ptr (P + 2) 0), (13, intV i), (14, .ptr Y 0), (15, .sl (bndR (renNs NFp l.reverse ui (ns.take p.1)).2.1.reverse) .no), (16, intV p.1)]) (fun p => p.2.2) (fun p => p.1 ≤ ns.length ∧ A9 q (renNs NFp l.reverse ui (ns.take p.1)).2.2 σ p.2.2 P [c0, c1, c2, c3, c4, c5, c6, c7, c8, .sl (armR ts) .no, c10] [v0, v1, v2, v3, v4, v5, v6, v7, v8, .sl (armR oi) tok, v10] (i * 3) tok Y [.lit (.string cn), .sl (txtR (renNs NFp l.reverse ui (ns.take p.1)).1) p.2.1, .sl [] .full] p.1 p.2.1) (fun p => ns.length - p.1) (0, .full, σ3) (by simp [sub, lk, renNs]) rfl ⟨by simp, by simpa [renNs, txtR] using hA⟩ ?_
   clear hA
   rintro ⟨j, tokN, σ4⟩ tm ⟨hj, hA⟩ RM hRM hRMx
   dsimp only at hj hA hRM ⊢
   refine JD.seqK fun K8 hK8 => ?_
   have b0 := hA.w.a0
   obtain ⟨n1, n2, n3⟩ := renNs_len l.reverse ui (ns.take j)
   rw [List.length_take_of_le hj] at n1 n2 n3
   rw [List.length_reverse] at n2
   rcases Nat.lt_or_ge j ns.length with hltj | hgej
   · have hta := txtR_get hltj
     have htk := renNs_take l.reverse ui hltj
     have hns1 : ns[j].size ≤ 1000000000 := hb _ (hmem _ (List.mem_append_left _ (List.getElem_mem hltj)))
     refine JD.seqK fun K hK => J.cw (CW.region ?_)
     simp (maxDischargeDepth := 16) [zY, b0, ha, hltj]
     refine hK _ _ ?_; clear hK K
     refine JD.cond (t := true) (by simp [zT, zF, lk]) ?_
     refine JD.skip (hK8 _ _ ?_)
     refine JD.keep [0, 1, 5, 6, 7, 13, 14, 15, 16] fun tm => ?_
     simp only [sel, List.contains_cons, List.contains_nil, Bool.or_false, Nat.reduceBEq, Bool.false_eq_true, if_false, if_true, Bool.or_true, Bool.true_or]
     refine JD.seqK fun K9 hK9 => JD.block ?_
     have finN : ∀ (nw : ByteArray) (b : Bnd) (u2 : List ByteArray) (tok' : Tok) (σ5 : Sto) (fr : List (Nat × AV)) (tm : List AV), renNs NFp l.reverse ui (ns.take (j + 1)) = ((renNs NFp l.reverse ui (ns.take j)).1 ++ [nw], b, u2) → A9 q u2 σ σ5 P [c0, c1, c2, c3, c4, c5, c6, c7, c8, .sl (armR ts) .no, c10] [v0, v1, v2, v3, v4, v5, v6, v7, v8, .sl (armR oi) tok, v10] (i * 3) tok Y [.lit (.string cn), .sl (txtR ((renNs NFp l.reverse ui (ns.take j)).1 ++ [nw])) tok', .sl [] .full] (j + 1) tok' → sub [(0, .ptr q.rid 0), (1, .sl (bndR l) .no), (5, .ptr P 0), (6, .ptr (P + 1) 0), (7, .ptr (P + 2) 0), (13, intV i), (14, .ptr Y 0), (15, .sl (bndR b.reverse) .no), (16, intV j)] fr → K9 (fm 162 fr tm) σ5 := by
      intro nw b u2 tok' σ5 fr tm e g1 hfr
      rw [fm_sub hfr]
      refine hK9 _ _ (J.cw (CW.region ?_))
      simp (maxDischargeDepth := 16) [zY, wrap_succ (show j ≤ 1000000000000 by omega)]
      refine hRM _ _ ⟨(j + 1, tok', σ5), _, _, rfl, ?_, rfl, ⟨hltj, ?_⟩, show ns.length - (j + 1) < ns.length - j by omega⟩
      · simp only [e]
        simp [sub, lk]
      · dsimp only
        rw [e]; exact g1
     clear hRM hRMx hK9 hK8
     replace finN := fun tok' σ5 fr tm => finN _ _ _ tok' σ5 fr tm htk
     generalize (renNs NFp l.reverse ui (ns.take j)).1 = nj at *
     generalize (renNs NFp l.reverse ui (ns.take j)).2.1 = lj at *
     generalize (renNs NFp l.reverse ui (ns.take j)).2.2 = uj at *
     generalize ns[j] = s at *
     refine JD.seqK fun K hK => J.cw (CW.region ?_)
     simp (maxDischargeDepth := 16) [zY, b0, ha, hta]
     refine (fresh9_ev H.toH9 q uj s σ4 hA.w.s (by omega) hns1 hN).mono ?_
     rintro r σ5 ⟨rfl, hS5, hF5⟩
     have hA5 := hA.go hS5 hF5
     have d0 := hA5.w.a0
     have dy := hA5.y
     generalize freshB uj s = nw at *
     simp (maxDischargeDepth := 16) [zY]
     refine hK _ _ ?_; clear hK K
     refine JD.seqK fun K hK => J.cw (CW.region ?_)
     simp (maxDischargeDepth := 16) [zY, d0, ha, hta]
     refine call_sm (lj.reverse, s, nw) H.nd and9_inj (by simp only [nrmR, AV.nrm, bndR_nrm]) (by show lj.reverse.length ≤ _; rw [List.length_reverse]; omega) (by omega) fun _ => ?_
     simp (maxDischargeDepth := 16) [zY]
     refine hK _ _ ?_; clear hK K
     obtain ⟨tok', σ6, acc, t1, t2, t3, t4, hap⟩ := app_own (P := Tryz.prog) (M := []) (σ := σ5) (t := 23) (e := 9) (k := 0) (by_ := 16) (es := txtR nj) (fs := [[.lit (.string nw)]]) (by kernel_rfl) (by kernel_rfl) (by kernel_rfl) (by kernel_rfl) (by simpa [n1] using hA5.t.t) (txtR_hd _) rfl (by simp only [txtR_len, n1, List.length_singleton]; omega) (by simp only [txtR_len, n1, List.length_singleton]; omega)
     rw [show txtR nj ++ stripRows [[.lit (.string nw)]] = txtR (nj ++ [nw]) by rw [txtR_app]; rfl] at hap
     obtain ⟨g1, g2, g3⟩ := hA5.t.next hS5 (by rw [List.length_replicate]; exact hA5.lt) t1 t2 t3 t4
     have hA6 := hA5.app g1 g2 g3
     have ey := hA6.y
     have hA7 := hA6.put [.lit (.string cn), .sl (txtR (nj ++ [nw])) tok', .sl [] .full]
     refine J.cw (CW.region ?_)
     simp (maxDischargeDepth := 16) [zY, dy, hap, ey]
     refine finN tok' _ _ _ (by simpa [n1] using hA7) ?_
     simp [sub, lk]
   · obtain rfl : j = ns.length := by omega
     rw [List.take_length] at hA n1 n2 n3 ⊢
     refine JD.seqK fun K hK => J.cw (CW.region ?_)
     simp (maxDischargeDepth := 16) [zY, b0, ha, Nat.not_lt.2 hgej]
     refine hK _ _ ?_; clear hK K
     refine JD.cond (t := false) (by simp [zT, zF, lk]) ?_
     refine JD.exit (hRMx _ _ _ (by simp) (hRN _ _ _ ?_))
     simp only [outOf, if_true]
     refine hKN _ _ ?_
     clear hKN hRMx hRN hRM hK8 RM RN KN K8
     generalize (renNs NFp l.reverse ui ns).1 = nj at *
     generalize (renNs NFp l.reverse ui ns).2.1 = lj at *
     generalize (renNs NFp l.reverse ui ns).2.2 = uj at *
     refine JD.keep [0, 1, 5, 6, 7, 13, 14, 15] fun tm => ?_
     simp only [sel, List.contains_cons, List.contains_nil, Bool.or_false, Nat.reduceBEq, Bool.false_eq_true, if_false, if_true, Bool.or_true, Bool.true_or]
     have hee := he q uj lj.reverse σ4 hA.w.s (by rw [List.length_reverse]; omega) (by omega) (fun s hs => hb s (hmem s (List.mem_append_right _ hs)))
     rw [List.reverse_reverse] at hee
     refine JD.seqK fun K hK => JD.region ?_
     simp (maxDischargeDepth := 16) [zY, symL, b0, ha]
     refine hee.mono ?_
     rintro r σ5 ⟨rfl, hS5, hF5⟩
     have hA5 := hA.go hS5 hF5
     have dy := hA5.y
     generalize (renEs NFp lj uj bd).1 = bd' at *
     generalize (renEs NFp lj uj bd).2 = ue at *
     simp (maxDischargeDepth := 16) [zY, symL, dy]
     refine hK _ _ ?_; clear hK K
     have hA6 := hA5.put [.lit (.string cn), .sl (txtR nj) tokN, .sl (expR bd') .no]
     generalize σ5.set Y (.cells [.lit (.string cn), .sl (txtR nj) tokN, .sl (expR bd') .no] 56) = σ6 at *
     have ey := hA6.y
     have e2 := hA6.w.a2
     obtain ⟨tok', σ7, acc, t1, t2, t3, t4, hap⟩ := app_own (P := Tryz.prog) (M := []) (σ := σ6) (t := 46) (e := 56) (k := 2) (by_ := 64) (es := armR oi) (fs := [[.lit (.string cn), .sl (txtR nj) tokN, .sl (expR bd') .no]]) (by kernel_rfl) (by kernel_rfl) (by kernel_rfl) (by kernel_rfl) (by rw [armR_len, hfl]; exact hA6.k.t) (armR_hd _) rfl (by simp only [armR_len, hfl, List.length_singleton]; omega) (by simp only [armR_len, hfl, List.length_singleton]; omega)
     rw [show armR oi ++ stripRows [[.lit (.string cn), .sl (txtR nj) tokN, .sl (expR bd') .no]] = armR (oi ++ [.mk cn nj bd']) by rw [armR_app]; rfl] at hap
     obtain ⟨g1, g2, g3⟩ := hA6.k.next hA6.w.s (by rw [List.length_replicate]; exact hA6.w.lt) t1 t2 t3 t4
     rw [armR_len, hfl, List.length_singleton] at g1
     have hW7 := hA6.w.go g2 g3 fun p hp => hA6.k.gt hp
     have f2 := hW7.a2
     have hW8 := hW7.put [v0, v1, v2, v3, v4, v5, v6, v7, v8, .sl (armR (oi ++ [.mk cn nj bd'])) tok', v10]
     have hK8 := hW7.putK [v0, v1, v2, v3, v4, v5, v6, v7, v8, .sl (armR (oi ++ [.mk cn nj bd'])) tok', v10] g1
     refine J.cw (CW.region ?_)
     simp (maxDischargeDepth := 16) [zY, ey, e2, hap, f2]
     refine fin tok' _ _ _ hW8 hK8 ?_
     simp [sub, lk]
 · obtain rfl : i = ts.length := by omega
   rw [List.take_length] at hH
   refine JD.seqK fun K hK => J.cw (CW.region ?_)
   simp (maxDischargeDepth := 16) [zY, a0, Nat.not_lt.2 hge]
   refine hK _ _ ?_; clear hK K
   refine JD.cond (t := false) (by simp [zT, zF, lk]) ?_
   refine JD.exit (hR2x _ _ _ (by simp) (hR1 _ _ _ ?_))
   simp only [outOf, if_true]
   refine hKL _ _ ?_
   refine JD.keep [5, 6, 7] fun tm => ?_
   simp only [sel, List.contains_cons, List.contains_nil, Bool.or_false, Nat.reduceBEq, Bool.false_eq_true, if_false, if_true, Bool.or_true, Bool.true_or]
   exact next tok σ2 _ hH
end
section
open Go.RowKit
variable {S : Sp} {N : Nat}
theorem expr9_8 {q : Q9} {u : List ByteArray} {σ σ1 : Sto} {P : Nat} {bx : List AV} {v0 v1 v2 v3 v4 v5 v6 v7 v8 v9 v10 : AV} (h : W9 q u σ σ1 P 49 bx [v0, v1, v2, v3, v4, v5, v6, v7, v8, v9, v10] 11)
    {R0 : AExit → List AV → Sto → Prop} (hR : ∀ fr tm σ', (∀ d, lk 6 fr d = .ptr (P + 1) 0) → σ'[P + 1]? = some (AObj.cells [v0, v1, v2, v3, v4, v5, v6, v7, v8, v9, v10] 49) → S9 q u σ' → F9 q nV σ σ' → R0 .ret (fm 162 fr tm) σ') (tm : List AV) :
    JD Tryz.prog (S.E N) [] (tailC 8 expr9B) (fm 162 [(5, .ptr P 0), (6, .ptr (P + 1) 0), (7, .ptr (P + 2) 0)] tm) σ1 R0 := by
 obtain ⟨z, z1, z2⟩ := h.a1
 have a2 := h.a2
 have l1 := (List.getElem?_eq_some_iff.1 z1).1
 have g := h.s.frS (V := fun p => P ≤ p) h.n1 (.inl (by show P ≤ P + 1; omega)) (.cells [v0, v1, v2, v3, v4, v5, v6, v7, v8, v9, v10] 49)
 have g1 := h.s.set h.n1 (.cells [v0, v1, v2, v3, v4, v5, v6, v7, v8, v9, v10] 49)
 obtain ⟨y0, y1, y2, y3, y4, y5, y6, y7, y8, y9, y10, rfl⟩ := len11 z2
 have hhl := h.l
 refine JD.seqK fun K hK => J.cw (CW.region ?_)
 simp (maxDischargeDepth := 16) [zY, a2, z1]
 refine hK _ _ ?_
 exact JD.ret (hR _ _ _ (fun d => by simp [lk]) (List.getElem?_set_self l1) g1 (h.f.trans g fun p hp => .inr (by omega)))
theorem expr9_j (H : H9K S) (k : Int) (nm : ByteArray) (ty : List Ty) (rh : List Rhs) (amk : Int) (amnm : ByteArray) (amng : Bool) (amdg : List Int) (amtr : Bool) (ar : List Arm) (bd : List Exp) (hn : (Exp.mk k nm ty rh (.mk amk amnm amng amdg amtr) ar bd).n ≤ 1000000000) (hN : 16 * (Exp.mk k nm ty rh (.mk amk amnm amng amdg amtr) ar bd).n + 4 < N)
    (hy : ∀ x ∈ ty, K9 S N 74 Ty.cs (renY NFp) bY x) (hr : ∀ x ∈ rh, K9 S N 77 Rhs.cs (renR NFp) bR x) (he : Es9 S N bd) (hm : ∀ cn ns b, Arm.mk cn ns b ∈ ar → Es9 S N b ∧ ns.length ≤ 1000000000) :
    K9 S N 46 Exp.cs (renE NFp) bE (.mk k nm ty rh (.mk amk amnm amng amdg amtr) ar bd) := by
 intro q u l σ h hl hu hb
 rw [show bE (.mk k nm ty rh (.mk amk amnm amng amdg amtr) ar bd) = (if k = 1 then [nm] else []) ++ bYs ty ++ bRs rh ++ bEs bd ++ bMs ar by rw [bE]] at hl hu hb
 simp only [Exp.n] at hn hN
 have n1 := tyN_len ty
 have n2 := rhsN_len rh
 have n3 := armN_len ar
 have hle1 : l.length ≤ 1000000000 := by omega
 have hb1 : ∀ s ∈ bYs ty, s.size ≤ 1000000000 := fun s hs => hb s (by simp [hs])
 have hb2 : ∀ s ∈ bRs rh, s.size ≤ 1000000000 := fun s hs => hb s (by simp [hs])
 have hb3 : ∀ s ∈ bEs bd, s.size ≤ 1000000000 := fun s hs => hb s (by simp [hs])
 have hb4 : ∀ s ∈ bMs ar, s.size ≤ 1000000000 := fun s hs => hb s (by simp [hs])
 have hb0 : k = 1 → nm.size ≤ 1000000000 := fun e => hb nm (by simp [e])
 clear hb
 simp only [List.length_append] at hl hu
 have hren : renE NFp l.reverse u (.mk k nm ty rh (.mk amk amnm amng amdg amtr) ar bd) = (let a := letN NFp l.reverse u k nm
  let b := renYs NFp l.reverse a.2.2 ty
  let c := renRs NFp l.reverse b.2 rh
  let d := renEs NFp a.2.1 c.2 bd
  let e := renMs NFp l.reverse d.2 ar
  (.mk k a.1 b.1 c.1 (.mk amk (if amk = 1 then nowB l.reverse amnm else amnm) amng amdg amtr) e.1 d.1, e.2)) := by rw [renE]; rfl
 obtain ⟨nw, lx, ul, hlet⟩ : ∃ nw lx ul, letN NFp l.reverse u k nm = (nw, lx, ul) := ⟨_, _, _, rfl⟩
 rw [hlet] at hren
 have e1 := (anew_Ys (F := NFp) l.reverse ul ty).len
 have e2 := (anew_Rs (F := NFp) l.reverse (renYs NFp l.reverse ul ty).2 rh).len
 have e3 := (anew_Es (F := NFp) lx (renRs NFp l.reverse (renYs NFp l.reverse ul ty).2 rh).2 bd).len
 dsimp only at hren
 have hul : ul.length = u.length + (if k = 1 then [nm] else []).length ∧ lx.length = l.length + (if k = 1 then [nm] else []).length := by
  unfold letN at hlet
  by_cases hk : k = 1
  · rw [if_pos hk] at hlet ⊢
    cases hlet
    simp
  · rw [if_neg hk] at hlet ⊢
    cases hlet
    simp
 refine J.callNrm (R := fun r σ' => (∃ t1 t2 t3, r = .ret (.agg [.lit (.int .u8 k), .lit (.string nw), .sl (tyR (renYs NFp l.reverse ul ty).1) t1, .sl (rhsR (renRs NFp l.reverse (renYs NFp l.reverse ul ty).2 rh).1) t2, .lit (.int .u8 amk), .lit (.string (if amk = 1 then nowB l.reverse amnm else amnm)), .lit (.bool amng), .sl (limR amdg) .no, .lit (.bool amtr), .sl (armR (renMs NFp l.reverse (renEs NFp lx (renRs NFp l.reverse (renYs NFp l.reverse ul ty).2 rh).2 bd).2 ar).1) t3, .sl (expR (renEs NFp lx (renRs NFp l.reverse (renYs NFp l.reverse ul ty).2 rh).2 bd).1) .no])) ∧ S9 q (renMs NFp l.reverse (renEs NFp lx (renRs NFp l.reverse (renYs NFp l.reverse ul ty).2 rh).2 bd).2 ar).2 σ' ∧ F9 q nV σ σ') ?_ (fun v σ' h => ?_) (fun v σ' h => by obtain ⟨⟨t1, t2, t3, e⟩, _⟩ := h; cases e)
 rotate_left
 · obtain ⟨⟨t1, t2, t3, e⟩, h2⟩ := h
   cases e
   rw [hren]
   exact ⟨by simp only [AV.nrm, nrmR, Exp.cs, limR_nrm, armR_nrm, tyR_nrm, expR_nrm, rhsR_nrm], h2⟩
 simp only [nrmR, AV.nrm, Exp.nrm, bndR_nrm]
 refine JC.startG (fn := Tryz.f46) (codeOf H.code Tryz.func46 rfl (by kernel_rfl)) rfl H.ex rfl (zL rfl) fun tm => ?_
 refine JD.hide fun R0 hR0 => ?_
 clear hren
 rw [renMs_f] at hR0
 rw [bMs_f] at hl hu hb4
 rw [bYs_f] at e1 hl hu hb1
 rw [bRs_f] at e2 hl hu hb2
 simp only [renYs_f, renRs_f] at hR0 e1 e2 e3
 simp only [Exp.cs]
 have hat : ∀ (σ : Sto) (Q : ARes → Sto → Prop), (accW (S.E N) 76 [.sl (bndR l) .no, .agg [.lit (.int .u8 amk), .lit (.string amnm), .lit (.bool amng), .sl (limR amdg) .no, .lit (.bool amtr)]] σ (.ret (.agg [.lit (.int .u8 amk), .lit (.string (if amk = 1 then nowB l.reverse amnm else amnm)), .lit (.bool amng), .sl (limR amdg) .no, .lit (.bool amtr)])) σ = .lcalls (fun _ => true) → Q (.ret (.agg [.lit (.int .u8 amk), .lit (.string (if amk = 1 then nowB l.reverse amnm else amnm)), .lit (.bool amng), .sl (limR amdg) .no, .lit (.bool amtr)])) σ) → CallW Tryz.prog (S.E N) 76 [.sl (bndR l) .no, .agg [.lit (.int .u8 amk), .lit (.string amnm), .lit (.bool amng), .sl (limR amdg) .no, .lit (.bool amtr)]] σ Q := fun σ Q hq => call_sm (l, Atm.mk amk amnm amng amdg amtr) H.am atom9_inj (by simp only [nrmR, AV.nrm, bndR_nrm, limR_nrm, Atm.cs]) ⟨hle1, by simp only [Atm.n]; omega⟩ (by simp only [Atm.n]; omega) hq
 generalize (if amk = 1 then nowB l.reverse amnm else amnm) = am2 at *
 refine JD.seqK fun K hK => J.cw (CW.region ?_)
 simp (maxDischargeDepth := 16) [zY]
 refine hK _ _ ?_; clear hK K
 refine JD.seqK fun K hK => J.cw (CW.draw (by kernel_rfl) ?_)
 simp (maxDischargeDepth := 16) [zY]
 refine hat _ _ fun hac => ?_
 simp (maxDischargeDepth := 16) [zY, hac]
 refine ⟨drawOk_sim [σ.length, σ.length + 2] [.pure, .reads 0, .pure, .reads 0, .pure, .pure, .reads 0, .lcalls (fun _ => true), .pure, .news 1, .writes 1] (.cons (by simp) (.cons (by simp) .nil)) (.cons .pure (.cons (.reads 0 _ rfl) (.cons .pure (.cons (.reads 0 _ rfl) (.cons .pure (.cons .pure (.cons (.reads 0 _ rfl) (.cons (.lcalls _ _ fun i a ha hi => rfl) (.cons .pure (.cons (.news 1 _ rfl) (.cons (.writes 1 _ rfl) .nil))))))))))) (by kernel_rfl), hK _ _ ?_⟩; clear hK K
 have hW := W9.new h 49 [.lit (.int .u8 k), .lit (.string nm), .sl (tyR ty) .no, .sl (rhsR rh) .no, .lit (.int .u8 amk), .lit (.string amnm), .lit (.bool amng), .sl (limR amdg) .no, .lit (.bool amtr), .sl (armR ar) .no, .sl (expR bd) .no] [.lit (.int .u8 0), .lit (.string ⟨#[]⟩), .sl [] .full, .sl [] .full, .lit (.int .u8 0), .lit (.string ⟨#[]⟩), .lit (.bool false), .sl [] .full, .lit (.bool false), .sl [] .full, .sl [] .full] [.lit (.int .u8 k), .lit (.string nm), .sl [] .full, .sl [] .full, .lit (.int .u8 amk), .lit (.string am2), .lit (.bool amng), .sl (limR amdg) .no, .lit (.bool amtr), .sl [] .full, .sl [] .full]
 clear h hac hat
 have key : ∀ σ2 tm, W9 q ul σ σ2 σ.length 49 [.lit (.int .u8 k), .lit (.string nm), .sl (tyR ty) .no, .sl (rhsR rh) .no, .lit (.int .u8 amk), .lit (.string amnm), .lit (.bool amng), .sl (limR amdg) .no, .lit (.bool amtr), .sl (armR ar) .no, .sl (expR bd) .no] [.lit (.int .u8 k), .lit (.string nw), .sl [] .full, .sl [] .full, .lit (.int .u8 amk), .lit (.string am2), .lit (.bool amng), .sl (limR amdg) .no, .lit (.bool amtr), .sl [] .full, .sl [] .full] 11 → JD Tryz.prog (S.E N) [] (tailC 4 expr9B) (fm 162 [(0, .ptr q.rid 0), (1, .sl (bndR l) .no), (5, .ptr σ.length 0), (6, .ptr (σ.length + 1) 0), (7, .ptr (σ.length + 2) 0), (8, .sl (bndR lx.reverse) .no)] tm) σ2 R0 := by
  intro σ2 tm hW2
  clear hW hb0
  refine expr9_4 H hW2 hy (by omega) (by omega) (by omega) hb1 (fun tok σ3 tm hW3 => ?_) tm
  clear hW2
  refine expr9_5 H hW3 hr (by omega) (by omega) (by omega) hb2 (fun tok2 σ4 tm hW4 => ?_) tm
  clear hW3
  generalize (foldR (renY NFp l.reverse) ul ty).1 = ty' at *
  generalize (foldR (renY NFp l.reverse) ul ty).2 = u1 at *
  generalize (foldR (renR NFp l.reverse) u1 rh).1 = rh' at *
  generalize (foldR (renR NFp l.reverse) u1 rh).2 = u2 at *
  have b0 := hW4.a0
  have hee := he q u2 lx.reverse σ4 hW4.s (by rw [List.length_reverse]; omega) (by omega) hb3
  rw [List.reverse_reverse] at hee
  refine JD.seqK fun K hK => JD.region ?_
  simp (maxDischargeDepth := 16) [zY, symL, b0]
  refine hee.mono ?_
  rintro r σ5 ⟨rfl, hS5, hF5⟩
  have hW5 := hW4.go hS5 hF5 fun p hp => hp.elim
  have a2 := hW5.a2
  generalize (renEs NFp lx u2 bd).1 = bd' at *
  generalize (renEs NFp lx u2 bd).2 = u3 at *
  simp (maxDischargeDepth := 16) [zY, symL, a2]
  refine hK _ _ ?_; clear hK K
  have hW6 := hW5.put [.lit (.int .u8 k), .lit (.string nw), .sl (tyR ty') tok, .sl (rhsR rh') tok2, .lit (.int .u8 amk), .lit (.string am2), .lit (.bool amng), .sl (limR amdg) .no, .lit (.bool amtr), .sl [] .full, .sl (expR bd') .no]
  refine JD.keep [0, 1, 5, 6, 7] fun tm => ?_
  simp only [sel, List.contains_cons, List.contains_nil, Bool.or_false, Nat.reduceBEq, Bool.false_eq_true, if_false, if_true, Bool.or_true, Bool.true_or]
  refine expr9_7 H hW6 hm (by omega) (by omega) (by omega) (by omega) hb4 (fun tok3 σ6 tm hW7 => ?_) _
  refine expr9_8 hW7 (fun fr tm σ' g1 g2 g3 g4 => ?_) tm
  exact hR0 _ _ _ ⟨_, by simp [zA, omap, zC, zX, g1, g2], ⟨tok, tok2, tok3, rfl⟩, g3, g4⟩
 clear hR0
 have hN0 : 0 < N := by omega
 have hun : u.length ≤ 1000000000 := by omega
 generalize σ ++ [_, _, _] = σa at *
 refine JD.keep [0, 1, 5, 6, 7] fun tm => ?_
 simp only [sel, List.contains_cons, List.contains_nil, Bool.or_false, Nat.reduceBEq, Bool.false_eq_true, if_false, if_true, Bool.or_true, Bool.true_or]
 refine JD.seqK fun K hK => J.cw (CW.region ?_)
 simp (maxDischargeDepth := 16) [zY]
 refine hK _ _ ?_; clear hK K
 have c0 := hW.a0
 have c2 := hW.a2
 unfold letN at hlet
 refine JD.seqK fun KA hKA => ?_
 rcases Classical.em (k = 1) with hk | hk
 · subst hk
   rw [if_pos rfl] at hlet
   cases hlet
   have hfe : NFp.f u nm = freshB u nm := rfl
   rw [hfe, List.reverse_cons, List.reverse_reverse] at key
   clear hfe e1 e2 e3 hul
   refine JD.seqK fun K hK => J.cw (CW.region ?_)
   simp (maxDischargeDepth := 16) [zY, c0]
   refine hK _ _ ?_; clear hK K
   refine JD.cond (t := true) (by simp [zT, zF, lk]) ?_
   refine JD.seqK fun K hK => J.cw (CW.region ?_)
   simp (maxDischargeDepth := 16) [zY, c0]
   refine (fresh9_ev H.toH9 q u nm σa hW.s hun (hb0 rfl) hN0).mono ?_
   rintro r σ5 ⟨rfl, hS5, hF5⟩
   have hW5 := hW.go hS5 hF5 fun p hp => hp.elim
   have d2 := hW5.a2
   have d0 := hW5.a0
   generalize freshB u nm = nw at *
   simp (maxDischargeDepth := 16) [zY, d2]
   refine hK _ _ ?_; clear hK K
   have hW6 := hW5.put [.lit (.int .u8 1), .lit (.string nw), .sl [] .full, .sl [] .full, .lit (.int .u8 amk), .lit (.string am2), .lit (.bool amng), .sl (limR amdg) .no, .lit (.bool amtr), .sl [] .full, .sl [] .full]
   have f0 := hW6.a0
   have f2 := hW6.a2
   generalize σ5.set (σ.length + 2) _ = σ6 at *
   refine J.cw (CW.region ?_)
   simp (maxDischargeDepth := 16) [zY, f0, f2]
   refine call_sm (l, nm, nw) H.nd and9_inj (by simp only [nrmR, AV.nrm, bndR_nrm]) hle1 (by omega) fun _ => ?_
   simp (maxDischargeDepth := 16) [zY]
   refine hKA _ _ ?_
   refine JD.keep [0, 1, 5, 6, 7, 8] fun tm => ?_
   simp only [sel, List.contains_cons, List.contains_nil, Bool.or_false, Nat.reduceBEq, Bool.false_eq_true, if_false, if_true, Bool.or_true, Bool.true_or]
   exact key _ _ hW6
 · rw [if_neg hk] at hlet
   cases hlet
   rw [List.reverse_reverse] at key
   have hk' := eq_false hk
   have hk2 : (k == 1) = false := by simp [hk]
   refine JD.seqK fun K hK => J.cw (CW.region ?_)
   simp (maxDischargeDepth := 16) [zY, c0, hk']
   refine hK _ _ ?_; clear hK K
   refine JD.cond (t := false) (by simp [zT, zF, lk, hk', hk2]) ?_
   refine JD.skip (hKA _ _ ?_)
   refine JD.keep [0, 1, 5, 6, 7, 8] fun tm => ?_
   simp only [sel, List.contains_cons, List.contains_nil, Bool.or_false, Nat.reduceBEq, Bool.false_eq_true, if_false, if_true, Bool.or_true, Bool.true_or]
   exact key _ _ hW
end
section
open Go.RowKit
theorem Ty.n_eq (fn : Bool) (st : ByteArray) (rf : Trm) (ps : List Prm) (rs : List Ty) : (Ty.mk fn st rf ps rs).n = rf.n + prmN ps + tyN rs := by cases rf; simp only [Ty.n, Trm.n]
theorem Prm.n_eq (nm : ByteArray) (ty : Ty) : (Prm.mk nm ty).n = ty.n := by obtain ⟨_, _, ⟨_, _, _, _, _⟩, _, _⟩ := ty; simp only [Prm.n, Ty.n]
theorem Exp.n_eq (k : Int) (nm : ByteArray) (ty : List Ty) (rh : List Rhs) (am : Atm) (ar : List Arm) (bd : List Exp) : (Exp.mk k nm ty rh am ar bd).n = am.n + tyN ty + rhsN rh + armN ar + expN bd := by cases am; simp only [Exp.n, Atm.n]; omega
end
section
open Go.RowKit
variable {S : Sp} {N : Nat}
theorem kind9_j (H : H9K S) : ∀ n : Nat, ∀ t : Ty, t.n ≤ n → t.n ≤ 1000000000 → 16 * t.n + 4 < N → K9 S N 74 Ty.cs (renY NFp) bY t := by
 intro n
 induction n with
 | zero => intro t h; have := t.n_pos; omega
 | succ n ih =>
  intro t h hn hN
  obtain ⟨fn, st0, ⟨rfk, rfnm, rfng, rfdg, rfks⟩, ps, rs⟩ := t
  have h' := h
  have hn' := hn
  have hN' := hN
  simp only [Ty.n] at h' hn' hN'
  have l1 := prmN_len ps
  have l2 := tyN_len rs
  refine kind9_s H fn st0 rfk rfnm rfng rfdg rfks ps rs hn hN (fun9_j H ps rs (by omega) (by omega) (by omega) (fun nm ty hx => ?_) fun x hx => ?_)
  · have := prmN_mem hx
    rw [Prm.n_eq] at this
    exact ih ty (by omega) (by omega) (by omega)
  · have := tyN_mem hx
    exact ih x (by omega) (by omega) (by omega)
theorem fun9_a (H : H9K S) (ps : List Prm) (rs : List Ty) (hn : prmN ps + tyN rs ≤ 1000000000) (hN : 16 * (prmN ps + tyN rs) + 4 < N) : Fu9 S N ps rs := by
 have l1 := prmN_len ps
 have l2 := tyN_len rs
 refine fun9_j H ps rs (by omega) (by omega) (by omega) (fun nm ty hx => ?_) fun x hx => ?_
 · have := prmN_mem hx
   rw [Prm.n_eq] at this
   exact kind9_j H _ ty (Nat.le_refl _) (by omega) (by omega)
 · have := tyN_mem hx
   exact kind9_j H _ x (Nat.le_refl _) (by omega) (by omega)
theorem all9_j (H : H9K S) : ∀ n : Nat, (∀ x : Exp, x.n ≤ n → x.n ≤ 1000000000 → 16 * x.n + 4 < N → K9 S N 46 Exp.cs (renE NFp) bE x) ∧ (∀ x : Rhs, x.n ≤ n → x.n ≤ 1000000000 → 16 * x.n + 4 < N → K9 S N 77 Rhs.cs (renR NFp) bR x) := by
 intro n
 induction n with
 | zero => exact ⟨fun x h => by have := x.n_pos; omega, fun x h => by have := x.n_pos; omega⟩
 | succ n ih =>
  obtain ⟨i1, i2⟩ := ih
  have hes : ∀ xs : List Exp, expN xs ≤ n → expN xs ≤ 1000000000 → 16 * expN xs + 4 < N → Es9 S N xs := fun xs a b c => by
   have l1 := expN_len xs
   exact exprs9_j H xs (by omega) fun y hy => by have := expN_mem hy; exact i1 y (by omega) (by omega) (by omega)
  refine ⟨fun x h hn hN => ?_, fun x h hn hN => ?_⟩
  · obtain ⟨k, nm, ty, rh, ⟨amk, amnm, amng, amdg, amtr⟩, ar, bd⟩ := x
    have h' := h
    have hn' := hn
    have hN' := hN
    simp only [Exp.n] at h' hn' hN'
    refine expr9_j H k nm ty rh amk amnm amng amdg amtr ar bd hn hN (fun y hy => ?_) (fun y hy => ?_) (hes bd (by omega) (by omega) (by omega)) fun cn ns b hb => ?_
    · have := tyN_mem hy
      exact kind9_j H _ y (Nat.le_refl _) (by omega) (by omega)
    · have := rhsN_mem hy
      exact i2 y (by omega) (by omega) (by omega)
    · have := armN_mem hb
      simp only [Arm.n] at this
      exact ⟨hes b (by omega) (by omega) (by omega), by omega⟩
  · obtain ⟨k, nm, ats, ps, rs, bd, ts⟩ := x
    have h' := h
    have hn' := hn
    have hN' := hN
    simp only [Rhs.n] at h' hn' hN'
    exact rhs9_j H k nm ats ps rs bd ts (fun9_a H ps rs (by omega) (by omega)) (hes bd (by omega) (by omega) (by omega)) hn hN
end
end Go.Proofs.YteajcnilihgheaaGreatDoor
