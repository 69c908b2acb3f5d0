/-
 EV: the statements' kit: Same.. (printed by gen_same.py).
-/
import Derived.Test.YteajcnilihgheaaGreatDoorEvTyM
import Derived.Test.YteajcnilihgheaaGreatDoorDataM
namespace Go.Proofs.YteajcnilihgheaaGreatDoor
set_option maxRecDepth 100000
set_option maxHeartbeats 8000000
set_option linter.unusedSimpArgs false
set_option linter.unusedVariables false
open Go.RowKit
abbrev intV (x : Int) : AV := .lit (.int .i64 x)
noncomputable def eqb {α : Type} (a b : α) : Bool := @decide (a = b) (Classical.propDecidable _)
theorem eqb_iff {α : Type} {a b : α} : eqb a b = true ↔ a = b := by unfold eqb; simp
theorem eqb_self {α : Type} (a : α) : eqb a a = true := eqb_iff.2 rfl
theorem eqb_ne {α : Type} {a b : α} (h : a ≠ b) : eqb a b = false := by unfold eqb; simpa using h
theorem eqb_no {α : Type} {a b : α} (h : eqb a b = false) : a ≠ b := fun e => by subst e; rw [eqb_self] at h; cases h
theorem beqL (a b : ByteArray) : (a.toList == b.toList) = eqb a b := by
 cases h : eqb a b with
 | true => rw [eqb_iff.1 h]; simp
 | false =>
  have := eqb_no h
  rw [Lib.toList_data, Lib.toList_data, beq_eq_false_iff_ne]
  exact fun e => this (by cases a; cases b; simpa using e)
noncomputable abbrev sameF {α : Type} (A : α → AV) (n : α → Nat) (r : Nat) : FS := pureF (fun p : α × α => [A p.1, A p.2]) (fun p => .lit (.bool (eqb p.1 p.2))) (fun p => n p.1) r
theorem call_same {P : Program} {S : Sp} {N r : Nat} {f : FuncId} {α : Type} {A : α → AV} {n : α → Nat} {args : List AV} {σ : Sto} {Q : ARes → Sto → Prop} (x y : α) (h : S.sp f = some (sameF A n r)) (hi : ∀ a b : α, A a = A b → a = b) (ha : nrmR args = [A x, A y]) (hb : n x ≤ 1000000000) (hN : 16 * n x + r < N)
    (hq : accW (S.E N) f args σ (.ret (.lit (.bool (eqb x y)))) σ = .lcalls (fun _ => true) → Q (.ret (.lit (.bool (eqb x y)))) σ) : CallW P (S.E N) f args σ Q :=
 call_pure (x, y) h (fun a b e => by
  obtain ⟨a1, a2⟩ := a; obtain ⟨b1, b2⟩ := b
  simp only [List.cons.injEq, and_true] at e
  rw [hi _ _ e.1, hi _ _ e.2]) ha hb hN hq
abbrev SameOk (S : Sp) (N : Nat) (f : FuncId) {α : Type} (A : α → AV) (n : α → Nat) (r : Nat) : Prop := ∀ (a b : α) (σ : Sto), n a ≤ 1000000000 → 16 * n a + r ≤ N → JC Tryz.prog (S.E N) f [A a, A b] σ fun r σ' => Fgt σ r σ' (.ret (.lit (.bool (eqb a b)))) σ
variable {S : Sp} {N : Nat}
theorem sl_inj {α : Type} {R : List α → List (List AV)} (h : ∀ {a b}, R a = R b → a = b) (a b : List α) (e : AV.sl (R a) .no = .sl (R b) .no) : a = b := h (by injection e)
theorem agg_inj {α : Type} {R : α → List AV} (h : ∀ {a b}, R a = R b → a = b) (a b : α) (e : AV.agg (R a) = .agg (R b)) : a = b := h (by injection e)
theorem SameLimbs_w (hc : S.code = codeP Tryz.prog) (hm : S.ms 137 = []) : SameOk S N 137 (fun l => .sl (limR l) .no) List.length 0 := by
 intro a b σ hl hN
 refine JC.startF (fn := Tryz.f137) (codeOf hc Tryz.func137 rfl (by kernel_rfl)) rfl hm rfl (zL rfl) fun tm => ?_
 refine CW.hide fun R0 hR0 => ?_
 have hlen : a.length ≤ List.length a := Nat.le_refl _
 refine CW.seqK fun K hK => CW.region ?_
 simp (maxDischargeDepth := 16) [zY]
 refine hK _ _ ?_; clear hK K
 refine CW.seqK fun K hK => ?_
 rcases Classical.em (a.length = b.length) with hab | hab
 · refine CW.seqK fun K hK => CW.region ?_
   simp (maxDischargeDepth := 16) [zY, hab]
   refine hK _ _ ?_; clear hK K
   refine CW.cond (t := false) (by simp [zT, zF, lk]) ?_
   refine CW.skip (hK _ _ ?_); clear hK K
   refine CW.seqK fun K hK => ?_
   refine CW.seqK fun K hK => CW.region ?_
   simp (maxDischargeDepth := 16) [zY]
   refine hK _ _ ?_; clear hK K
   refine CW.block (CW.hide fun R hR => ?_)
   refine CW.loopF (fun i : Nat => [(0, .sl (limR a) .no), (1, .sl (limR b) .no), (5, .lit (.int .i64 i))]) (fun _ => σ) (fun i => i ≤ a.length ∧ a.take i = b.take i) (fun i => a.length - i) 0 (by simp [sub, lk]) rfl (by simp) ?_
   rintro i tm ⟨hi, hp⟩
   refine CW.hide fun R2 hR2 => CW.seqK fun K3 hK3 => CW.seqK fun K4 hK4 => CW.region ?_
   rcases Nat.lt_or_ge i a.length with hlt | hge
   · simp (maxDischargeDepth := 16) [zY, hlt]
     refine hK4 _ _ ?_
     refine CW.cond (t := true) (by simp [zT, zF, lk]) ?_
     refine CW.skip (hK3 _ _ ?_)
     refine CW.seqK fun K5 hK5 => CW.block ?_
     have hlb : i < b.length := by omega
     have ha := limR_get hlt
     have hb := limR_get hlb
     have hnx : a[i] = b[i] → a.take (i + 1) = b.take (i + 1) := fun e => by rw [List.take_add_one, List.take_add_one, hp, List.getElem?_eq_getElem hlt, List.getElem?_eq_getElem hlb, e]
     have hny : a[i] ≠ b[i] → a ≠ b := fun e h => e (by subst h; rfl)
     rcases Classical.em (a[i] = b[i]) with e | e
     · refine CW.seqK fun K hK => CW.draw (by kernel_rfl) ?_
       simp (maxDischargeDepth := 16) [zY, ha, hb, e]
       refine ⟨by kernel_rfl, hK _ _ ?_⟩; clear hK K
       refine CW.cond (t := false) (by simp [zT, zF, lk, e]) ?_
       refine CW.skip (hK5 _ _ ?_)
       refine CW.region ?_
       simp (maxDischargeDepth := 16) [zY, wrap_succ (show i ≤ 1000000000000 by omega)]
       exact hR2 _ _ _ ⟨i + 1, _, _, rfl, by simp [sub, lk], rfl, ⟨hlt, hnx e⟩, by omega⟩
     · refine CW.seqK fun K hK => CW.draw (by kernel_rfl) ?_
       simp (maxDischargeDepth := 16) [zY, ha, hb, e]
       refine ⟨by kernel_rfl, hK _ _ ?_⟩; clear hK K
       refine CW.cond (t := true) (by simp [zT, zF, lk, e]) ?_
       refine CW.seqK fun K hK => CW.region ?_
       simp (maxDischargeDepth := 16) [zY]
       refine hK _ _ ?_; clear hK K
       refine CW.ret (hR2 _ _ _ (hR _ _ _ (hR0 _ _ _ ⟨.lit (.bool false), by simp [zA, omap, zB, zF, lk], ?_⟩)))
       rw [eqb_ne (hny e)]; exact done0 rfl rfl
   · simp (maxDischargeDepth := 16) [zY, Nat.not_lt.2 hge]
     refine hK4 _ _ ?_
     refine CW.cond (t := false) (by simp [zT, zF, lk]) ?_
     refine CW.exit (hR2 _ _ _ (hR _ _ _ ?_))
     simp only [outOf, if_true, andThen]
     refine hK _ _ ?_
     refine CW.seqK fun K hK => CW.region ?_
     simp (maxDischargeDepth := 16) [zY]
     refine hK _ _ ?_; clear hK K
     refine CW.ret (hR0 _ _ _ ⟨.lit (.bool true), by simp [zA, omap, zB, zF, lk], ?_⟩)
     rw [List.take_of_length_le hge, List.take_of_length_le (by omega)] at hp
     rw [hp, eqb_self]; exact done0 rfl rfl
 · have hab' : ¬ (a.length : Int) = b.length := by omega
   refine CW.seqK fun K hK => CW.region ?_
   simp (maxDischargeDepth := 16) [zY, hab']
   refine hK _ _ ?_; clear hK K
   refine CW.cond (t := true) (by simp [zT, zF, lk, hab']) ?_
   refine CW.seqK fun K hK => CW.region ?_
   simp (maxDischargeDepth := 16) [zY]
   refine hK _ _ ?_; clear hK K
   refine CW.ret (hR0 _ _ _ ⟨.lit (.bool false), by simp [zA, omap, zB, zF, lk], ?_⟩)
   rw [eqb_ne (fun h => hab (by subst h; rfl))]; exact done0 rfl rfl
theorem SameTexts_w (hc : S.code = codeP Tryz.prog) (hm : S.ms 17 = []) : SameOk S N 17 (fun l => .sl (txtR l) .no) List.length 0 := by
 intro a b σ hl hN
 refine JC.startF (fn := Tryz.f17) (codeOf hc Tryz.func17 rfl (by kernel_rfl)) rfl hm rfl (zL rfl) fun tm => ?_
 refine CW.hide fun R0 hR0 => ?_
 have hlen : a.length ≤ List.length a := Nat.le_refl _
 refine CW.seqK fun K hK => CW.region ?_
 simp (maxDischargeDepth := 16) [zY]
 refine hK _ _ ?_; clear hK K
 refine CW.seqK fun K hK => ?_
 rcases Classical.em (a.length = b.length) with hab | hab
 · refine CW.seqK fun K hK => CW.region ?_
   simp (maxDischargeDepth := 16) [zY, hab]
   refine hK _ _ ?_; clear hK K
   refine CW.cond (t := false) (by simp [zT, zF, lk]) ?_
   refine CW.skip (hK _ _ ?_); clear hK K
   refine CW.seqK fun K hK => ?_
   refine CW.seqK fun K hK => CW.region ?_
   simp (maxDischargeDepth := 16) [zY]
   refine hK _ _ ?_; clear hK K
   refine CW.block (CW.hide fun R hR => ?_)
   refine CW.loopF (fun i : Nat => [(0, .sl (txtR a) .no), (1, .sl (txtR b) .no), (5, .lit (.int .i64 i))]) (fun _ => σ) (fun i => i ≤ a.length ∧ a.take i = b.take i) (fun i => a.length - i) 0 (by simp [sub, lk]) rfl (by simp) ?_
   rintro i tm ⟨hi, hp⟩
   refine CW.hide fun R2 hR2 => CW.seqK fun K3 hK3 => CW.seqK fun K4 hK4 => CW.region ?_
   rcases Nat.lt_or_ge i a.length with hlt | hge
   · simp (maxDischargeDepth := 16) [zY, hlt]
     refine hK4 _ _ ?_
     refine CW.cond (t := true) (by simp [zT, zF, lk]) ?_
     refine CW.skip (hK3 _ _ ?_)
     refine CW.seqK fun K5 hK5 => CW.block ?_
     have hlb : i < b.length := by omega
     have ha := txtR_get hlt
     have hb := txtR_get hlb
     have hnx : a[i] = b[i] → a.take (i + 1) = b.take (i + 1) := fun e => by rw [List.take_add_one, List.take_add_one, hp, List.getElem?_eq_getElem hlt, List.getElem?_eq_getElem hlb, e]
     have hny : a[i] ≠ b[i] → a ≠ b := fun e h => e (by subst h; rfl)
     rcases Classical.em (a[i] = b[i]) with e | e
     · refine CW.seqK fun K hK => CW.draw (by kernel_rfl) ?_
       simp (maxDischargeDepth := 16) [zY, ha, hb, e]
       refine ⟨by kernel_rfl, hK _ _ ?_⟩; clear hK K
       refine CW.cond (t := false) (by simp [zT, zF, lk, e]) ?_
       refine CW.skip (hK5 _ _ ?_)
       refine CW.region ?_
       simp (maxDischargeDepth := 16) [zY, wrap_succ (show i ≤ 1000000000000 by omega)]
       exact hR2 _ _ _ ⟨i + 1, _, _, rfl, by simp [sub, lk], rfl, ⟨hlt, hnx e⟩, by omega⟩
     · have e2 := eqb_ne e
       refine CW.seqK fun K hK => CW.draw (by kernel_rfl) ?_
       simp (maxDischargeDepth := 16) [zY, ha, hb, e, beqL, e2]
       refine ⟨by kernel_rfl, hK _ _ ?_⟩; clear hK K
       refine CW.cond (t := true) (by simp [zT, zF, lk, e]) ?_
       refine CW.seqK fun K hK => CW.region ?_
       simp (maxDischargeDepth := 16) [zY]
       refine hK _ _ ?_; clear hK K
       refine CW.ret (hR2 _ _ _ (hR _ _ _ (hR0 _ _ _ ⟨.lit (.bool false), by simp [zA, omap, zB, zF, lk], ?_⟩)))
       rw [eqb_ne (hny e)]; exact done0 rfl rfl
   · simp (maxDischargeDepth := 16) [zY, Nat.not_lt.2 hge]
     refine hK4 _ _ ?_
     refine CW.cond (t := false) (by simp [zT, zF, lk]) ?_
     refine CW.exit (hR2 _ _ _ (hR _ _ _ ?_))
     simp only [outOf, if_true, andThen]
     refine hK _ _ ?_
     refine CW.seqK fun K hK => CW.region ?_
     simp (maxDischargeDepth := 16) [zY]
     refine hK _ _ ?_; clear hK K
     refine CW.ret (hR0 _ _ _ ⟨.lit (.bool true), by simp [zA, omap, zB, zF, lk], ?_⟩)
     rw [List.take_of_length_le hge, List.take_of_length_le (by omega)] at hp
     rw [hp, eqb_self]; exact done0 rfl rfl
 · have hab' : ¬ (a.length : Int) = b.length := by omega
   refine CW.seqK fun K hK => CW.region ?_
   simp (maxDischargeDepth := 16) [zY, hab']
   refine hK _ _ ?_; clear hK K
   refine CW.cond (t := true) (by simp [zT, zF, lk, hab']) ?_
   refine CW.seqK fun K hK => CW.region ?_
   simp (maxDischargeDepth := 16) [zY]
   refine hK _ _ ?_; clear hK K
   refine CW.ret (hR0 _ _ _ ⟨.lit (.bool false), by simp [zA, omap, zB, zF, lk], ?_⟩)
   rw [eqb_ne (fun h => hab (by subst h; rfl))]; exact done0 rfl rfl
abbrev intA (p : Bool × List Int) : AV := .agg [.lit (.bool p.1), .sl (limR p.2) .no]
theorem intA_inj (a b : Bool × List Int) (h : intA a = intA b) : a = b := by
 obtain ⟨x, l⟩ := a; obtain ⟨y, m⟩ := b
 simp only [intA, AV.agg.injEq, List.cons.injEq, AV.lit.injEq, Value.bool.injEq, AV.sl.injEq, and_true] at h
 rw [h.1, limR_inj h.2]
abbrev intN (p : Bool × List Int) : Nat := p.2.length
theorem SameInt_w (hc : S.code = codeP Tryz.prog) (hm : S.ms 115 = []) (h1 : S.sp 137 = some (sameF (fun l => .sl (limR l) .no) List.length 0)) : SameOk S N 115 intA intN 1 := by
 intro a b σ hl hN
 refine JC.startF (fn := Tryz.f115) (codeOf hc Tryz.func115 rfl (by kernel_rfl)) rfl hm rfl (zL rfl) fun tm => ?_
 refine CW.hide fun R0 hR0 => ?_
 obtain ⟨ng, dg⟩ := a; obtain ⟨wng, wdg⟩ := b
 simp only [intN] at hl hN
 simp only [intA]
 refine CW.seqK fun K hK => CW.region ?_
 simp (maxDischargeDepth := 16) [zY]
 refine hK _ _ ?_; clear hK K
 refine CW.seqK fun K hK => CW.region ?_
 rcases Classical.em (ng = wng) with e1 | e1
 · subst e1
   simp (maxDischargeDepth := 16) [zY]
   refine call_same (dg) (wdg) h1 (sl_inj limR_inj) (by simp only [nrmR, AV.nrm, limR_nrm]) (by omega) (by omega) fun _ => ?_
   cases hq2 : eqb (dg) (wdg) with
   | true =>
    simp (maxDischargeDepth := 16) [zY]
    refine hK _ _ ?_
    refine CW.ret (hR0 _ _ _ ⟨.lit (.bool true), by simp [zA, omap, zB, zF, lk], ?_⟩)
    cases eqb_iff.1 hq2
    rw [eqb_self]; exact done rfl rfl
   | false =>
    simp (maxDischargeDepth := 16) [zY]
    refine hK _ _ ?_
    refine CW.ret (hR0 _ _ _ ⟨.lit (.bool false), by simp [zA, omap, zB, zF, lk], ?_⟩)
    rw [eqb_ne (fun h => by cases h; exact eqb_no hq2 rfl)]; exact done rfl rfl
 · simp (maxDischargeDepth := 16) [zY, e1, beq_eq_false_iff_ne.2 e1]
   refine hK _ _ ?_
   refine CW.ret (hR0 _ _ _ ⟨.lit (.bool false), by simp [zA, omap, zB, zF, lk], ?_⟩)
   rw [eqb_ne (fun h => by cases h; exact e1 rfl)]; exact done rfl rfl
theorem SameTerm_w (hc : S.code = codeP Tryz.prog) (hm : S.ms 80 = []) (hI : S.sp 115 = some (sameF intA intN 1)) (h1 : S.sp 116 = some (sameF (fun l => .sl (trmR l) .no) trmN 3)) : SameOk S N 80 (fun t : Trm => .agg t.cs) Trm.n 2 := by
 intro a b σ hl hN
 refine JC.startF (fn := Tryz.f80) (codeOf hc Tryz.func80 rfl (by kernel_rfl)) rfl hm rfl (zL rfl) fun tm => ?_
 refine CW.hide fun R0 hR0 => ?_
 obtain ⟨k, nm, ng, dg, ks⟩ := a; obtain ⟨wk, wnm, wng, wdg, wks⟩ := b
 simp only [Trm.n] at hl hN
 simp only [Trm.cs]
 refine CW.seqK fun K hK => CW.region ?_
 simp (maxDischargeDepth := 16) [zY]
 refine hK _ _ ?_; clear hK K
 refine CW.seqK fun K hK => CW.region ?_
 rcases Classical.em (k = wk) with e1 | e1
 · subst e1
   rcases Classical.em (nm = wnm) with e2 | e2
   · subst e2
     simp (maxDischargeDepth := 16) [zY]
     refine call_same ((ng, dg)) ((wng, wdg)) hI intA_inj (by simp only [nrmR, AV.nrm, limR_nrm]) (by simp only [intN]; omega) (by simp only [intN]; omega) fun _ => ?_
     cases hq3 : eqb ((ng, dg)) ((wng, wdg)) with
     | true =>
      simp (maxDischargeDepth := 16) [zY]
      refine call_same (ks) (wks) h1 (sl_inj trmR_inj) (by simp only [nrmR, AV.nrm, trmR_nrm]) (by omega) (by omega) fun _ => ?_
      cases hq4 : eqb (ks) (wks) with
      | true =>
       simp (maxDischargeDepth := 16) [zY]
       refine hK _ _ ?_
       refine CW.ret (hR0 _ _ _ ⟨.lit (.bool true), by simp [zA, omap, zB, zF, lk], ?_⟩)
       cases eqb_iff.1 hq3
       cases eqb_iff.1 hq4
       rw [eqb_self]; exact done rfl rfl
      | false =>
       simp (maxDischargeDepth := 16) [zY]
       refine hK _ _ ?_
       refine CW.ret (hR0 _ _ _ ⟨.lit (.bool false), by simp [zA, omap, zB, zF, lk], ?_⟩)
       rw [eqb_ne (fun h => by cases h; exact eqb_no hq4 rfl)]; exact done rfl rfl
     | false =>
      simp (maxDischargeDepth := 16) [zY]
      refine hK _ _ ?_
      refine CW.ret (hR0 _ _ _ ⟨.lit (.bool false), by simp [zA, omap, zB, zF, lk], ?_⟩)
      rw [eqb_ne (fun h => by cases h; exact eqb_no hq3 rfl)]; exact done rfl rfl
   · simp (maxDischargeDepth := 16) [zY, e2, beqL, eqb_ne e2]
     refine hK _ _ ?_
     refine CW.ret (hR0 _ _ _ ⟨.lit (.bool false), by simp [zA, omap, zB, zF, lk], ?_⟩)
     rw [eqb_ne (fun h => by cases h; exact e2 rfl)]; exact done rfl rfl
 · simp (maxDischargeDepth := 16) [zY, e1, beq_eq_false_iff_ne.2 e1]
   refine hK _ _ ?_
   refine CW.ret (hR0 _ _ _ ⟨.lit (.bool false), by simp [zA, omap, zB, zF, lk], ?_⟩)
   rw [eqb_ne (fun h => by cases h; exact e1 rfl)]; exact done rfl rfl
theorem SameTerms_w (hc : S.code = codeP Tryz.prog) (hm : S.ms 116 = []) (h1 : S.sp 80 = some (sameF (fun t : Trm => .agg t.cs) Trm.n 2)) : SameOk S N 116 (fun l => .sl (trmR l) .no) trmN 3 := by
 intro a b σ hl hN
 refine JC.startF (fn := Tryz.f116) (codeOf hc Tryz.func116 rfl (by kernel_rfl)) rfl hm rfl (zL rfl) fun tm => ?_
 refine CW.hide fun R0 hR0 => ?_
 have hlen : a.length ≤ trmN a := trmN_len a
 refine CW.seqK fun K hK => CW.region ?_
 simp (maxDischargeDepth := 16) [zY]
 refine hK _ _ ?_; clear hK K
 refine CW.seqK fun K hK => ?_
 rcases Classical.em (a.length = b.length) with hab | hab
 · refine CW.seqK fun K hK => CW.region ?_
   simp (maxDischargeDepth := 16) [zY, hab]
   refine hK _ _ ?_; clear hK K
   refine CW.cond (t := false) (by simp [zT, zF, lk]) ?_
   refine CW.skip (hK _ _ ?_); clear hK K
   refine CW.seqK fun K hK => ?_
   refine CW.seqK fun K hK => CW.region ?_
   simp (maxDischargeDepth := 16) [zY]
   refine hK _ _ ?_; clear hK K
   refine CW.block (CW.hide fun R hR => ?_)
   refine CW.loopF (fun i : Nat => [(0, .sl (trmR a) .no), (1, .sl (trmR b) .no), (5, .lit (.int .i64 i))]) (fun _ => σ) (fun i => i ≤ a.length ∧ a.take i = b.take i) (fun i => a.length - i) 0 (by simp [sub, lk]) rfl (by simp) ?_
   rintro i tm ⟨hi, hp⟩
   refine CW.hide fun R2 hR2 => CW.seqK fun K3 hK3 => CW.seqK fun K4 hK4 => CW.region ?_
   rcases Nat.lt_or_ge i a.length with hlt | hge
   · simp (maxDischargeDepth := 16) [zY, hlt]
     refine hK4 _ _ ?_
     refine CW.cond (t := true) (by simp [zT, zF, lk]) ?_
     refine CW.skip (hK3 _ _ ?_)
     refine CW.seqK fun K5 hK5 => CW.block ?_
     have hlb : i < b.length := by omega
     have ha := trmR_get hlt
     have hb := trmR_get hlb
     have hnx : a[i] = b[i] → a.take (i + 1) = b.take (i + 1) := fun e => by rw [List.take_add_one, List.take_add_one, hp, List.getElem?_eq_getElem hlt, List.getElem?_eq_getElem hlb, e]
     have hny : a[i] ≠ b[i] → a ≠ b := fun e h => e (by subst h; rfl)
     have hg := trmN_get hlt
     refine CW.seqK fun K hK => CW.draw (by kernel_rfl) ?_
     simp (maxDischargeDepth := 16) [zY, ha, hb, Trm.len, Trm.tk]
     refine call_same a[i] b[i] h1 (agg_inj Trm.inj) (by simp only [nrmR, AV.nrm, Trm.nrm]) (by omega) (by omega) fun hac => ?_
     cases hq : eqb a[i] b[i] with
     | true =>
      rw [hq] at hac
      simp (maxDischargeDepth := 16) [zY, hac]
      refine ⟨by kernel_rfl, hK _ _ ?_⟩
      refine CW.cond (t := false) (by simp [zT, zF, lk]) ?_
      refine CW.skip (hK5 _ _ ?_)
      refine CW.region ?_
      simp (maxDischargeDepth := 16) [zY, wrap_succ (show i ≤ 1000000000000 by omega)]
      exact hR2 _ _ _ ⟨i + 1, _, _, rfl, by simp [sub, lk], rfl, ⟨hlt, hnx (eqb_iff.1 hq)⟩, by omega⟩
     | false =>
      rw [hq] at hac
      simp (maxDischargeDepth := 16) [zY, hac]
      refine ⟨by kernel_rfl, hK _ _ ?_⟩
      refine CW.cond (t := true) (by simp [zT, zF, lk]) ?_
      refine CW.seqK fun K hK => CW.region ?_
      simp (maxDischargeDepth := 16) [zY]
      refine hK _ _ ?_; clear hK K
      refine CW.ret (hR2 _ _ _ (hR _ _ _ (hR0 _ _ _ ⟨.lit (.bool false), by simp [zA, omap, zB, zF, lk], ?_⟩)))
      rw [eqb_ne (hny (eqb_no hq))]; exact done0 rfl rfl
   · simp (maxDischargeDepth := 16) [zY, Nat.not_lt.2 hge]
     refine hK4 _ _ ?_
     refine CW.cond (t := false) (by simp [zT, zF, lk]) ?_
     refine CW.exit (hR2 _ _ _ (hR _ _ _ ?_))
     simp only [outOf, if_true, andThen]
     refine hK _ _ ?_
     refine CW.seqK fun K hK => CW.region ?_
     simp (maxDischargeDepth := 16) [zY]
     refine hK _ _ ?_; clear hK K
     refine CW.ret (hR0 _ _ _ ⟨.lit (.bool true), by simp [zA, omap, zB, zF, lk], ?_⟩)
     rw [List.take_of_length_le hge, List.take_of_length_le (by omega)] at hp
     rw [hp, eqb_self]; exact done0 rfl rfl
 · have hab' : ¬ (a.length : Int) = b.length := by omega
   refine CW.seqK fun K hK => CW.region ?_
   simp (maxDischargeDepth := 16) [zY, hab']
   refine hK _ _ ?_; clear hK K
   refine CW.cond (t := true) (by simp [zT, zF, lk, hab']) ?_
   refine CW.seqK fun K hK => CW.region ?_
   simp (maxDischargeDepth := 16) [zY]
   refine hK _ _ ?_; clear hK K
   refine CW.ret (hR0 _ _ _ ⟨.lit (.bool false), by simp [zA, omap, zB, zF, lk], ?_⟩)
   rw [eqb_ne (fun h => hab (by subst h; rfl))]; exact done0 rfl rfl
theorem SameParam_w (hc : S.code = codeP Tryz.prog) (hm : S.ms 79 = []) (h1 : S.sp 48 = some (sameF (fun t : Ty => .agg t.cs) Ty.n 4)) : SameOk S N 79 (fun t : Prm => .agg t.cs) Prm.n 5 := by
 intro a b σ hl hN
 refine JC.startF (fn := Tryz.f79) (codeOf hc Tryz.func79 rfl (by kernel_rfl)) rfl hm rfl (zL rfl) fun tm => ?_
 refine CW.hide fun R0 hR0 => ?_
 obtain ⟨nm, ⟨tyfn, tyst, ⟨tyrfk, tyrfnm, tyrfng, tyrfdg, tyrfks⟩, typs, tyrs⟩⟩ := a; obtain ⟨wnm, ⟨wtyfn, wtyst, ⟨wtyrfk, wtyrfnm, wtyrfng, wtyrfdg, wtyrfks⟩, wtyps, wtyrs⟩⟩ := b
 simp only [Prm.n] at hl hN
 simp only [Prm.cs]
 refine CW.seqK fun K hK => CW.region ?_
 simp (maxDischargeDepth := 16) [zY]
 refine hK _ _ ?_; clear hK K
 refine CW.seqK fun K hK => CW.region ?_
 rcases Classical.em (nm = wnm) with e1 | e1
 · subst e1
   simp (maxDischargeDepth := 16) [zY]
   refine call_same (Ty.mk tyfn tyst (Trm.mk tyrfk tyrfnm tyrfng tyrfdg tyrfks) typs tyrs) (Ty.mk wtyfn wtyst (Trm.mk wtyrfk wtyrfnm wtyrfng wtyrfdg wtyrfks) wtyps wtyrs) h1 (agg_inj Ty.inj) (by simp only [nrmR, AV.nrm, limR_nrm, trmR_nrm, prmR_nrm, tyR_nrm, Ty.cs]) (by simp only [Ty.n]; omega) (by simp only [Ty.n]; omega) fun _ => ?_
   cases hq2 : eqb (Ty.mk tyfn tyst (Trm.mk tyrfk tyrfnm tyrfng tyrfdg tyrfks) typs tyrs) (Ty.mk wtyfn wtyst (Trm.mk wtyrfk wtyrfnm wtyrfng wtyrfdg wtyrfks) wtyps wtyrs) with
   | true =>
    simp (maxDischargeDepth := 16) [zY]
    refine hK _ _ ?_
    refine CW.ret (hR0 _ _ _ ⟨.lit (.bool true), by simp [zA, omap, zB, zF, lk], ?_⟩)
    cases eqb_iff.1 hq2
    rw [eqb_self]; exact done rfl rfl
   | false =>
    simp (maxDischargeDepth := 16) [zY]
    refine hK _ _ ?_
    refine CW.ret (hR0 _ _ _ ⟨.lit (.bool false), by simp [zA, omap, zB, zF, lk], ?_⟩)
    rw [eqb_ne (fun h => by cases h; exact eqb_no hq2 rfl)]; exact done rfl rfl
 · simp (maxDischargeDepth := 16) [zY, e1, beqL, eqb_ne e1]
   refine hK _ _ ?_
   refine CW.ret (hR0 _ _ _ ⟨.lit (.bool false), by simp [zA, omap, zB, zF, lk], ?_⟩)
   rw [eqb_ne (fun h => by cases h; exact e1 rfl)]; exact done rfl rfl
theorem SameType_w (hc : S.code = codeP Tryz.prog) (hm : S.ms 48 = []) (h1 : S.sp 80 = some (sameF (fun t : Trm => .agg t.cs) Trm.n 2)) (h2 : S.sp 47 = some (sameF (fun l => .sl (prmR l) .no) prmN 6)) (h3 : S.sp 81 = some (sameF (fun l => .sl (tyR l) .no) tyN 6)) : SameOk S N 48 (fun t : Ty => .agg t.cs) Ty.n 4 := by
 intro a b σ hl hN
 refine JC.startF (fn := Tryz.f48) (codeOf hc Tryz.func48 rfl (by kernel_rfl)) rfl hm rfl (zL rfl) fun tm => ?_
 refine CW.hide fun R0 hR0 => ?_
 obtain ⟨fn, st, ⟨rfk, rfnm, rfng, rfdg, rfks⟩, ps, rs⟩ := a; obtain ⟨wfn, wst, ⟨wrfk, wrfnm, wrfng, wrfdg, wrfks⟩, wps, wrs⟩ := b
 simp only [Ty.n] at hl hN
 simp only [Ty.cs]
 refine CW.seqK fun K hK => CW.region ?_
 simp (maxDischargeDepth := 16) [zY]
 refine hK _ _ ?_; clear hK K
 refine CW.seqK fun K hK => CW.region ?_
 rcases Classical.em (fn = wfn) with e1 | e1
 · subst e1
   rcases Classical.em (st = wst) with e2 | e2
   · subst e2
     simp (maxDischargeDepth := 16) [zY]
     refine call_same (Trm.mk rfk rfnm rfng rfdg rfks) (Trm.mk wrfk wrfnm wrfng wrfdg wrfks) h1 (agg_inj Trm.inj) (by simp only [nrmR, AV.nrm, limR_nrm, trmR_nrm, Trm.cs]) (by simp only [Trm.n]; omega) (by simp only [Trm.n]; omega) fun _ => ?_
     cases hq3 : eqb (Trm.mk rfk rfnm rfng rfdg rfks) (Trm.mk wrfk wrfnm wrfng wrfdg wrfks) with
     | true =>
      simp (maxDischargeDepth := 16) [zY]
      refine call_same (ps) (wps) h2 (sl_inj prmR_inj) (by simp only [nrmR, AV.nrm, prmR_nrm]) (by omega) (by omega) fun _ => ?_
      cases hq4 : eqb (ps) (wps) with
      | true =>
       simp (maxDischargeDepth := 16) [zY]
       refine call_same (rs) (wrs) h3 (sl_inj tyR_inj) (by simp only [nrmR, AV.nrm, tyR_nrm]) (by omega) (by omega) fun _ => ?_
       cases hq5 : eqb (rs) (wrs) with
       | true =>
        simp (maxDischargeDepth := 16) [zY]
        refine hK _ _ ?_
        refine CW.ret (hR0 _ _ _ ⟨.lit (.bool true), by simp [zA, omap, zB, zF, lk], ?_⟩)
        cases eqb_iff.1 hq3
        cases eqb_iff.1 hq4
        cases eqb_iff.1 hq5
        rw [eqb_self]; exact done rfl rfl
       | false =>
        simp (maxDischargeDepth := 16) [zY]
        refine hK _ _ ?_
        refine CW.ret (hR0 _ _ _ ⟨.lit (.bool false), by simp [zA, omap, zB, zF, lk], ?_⟩)
        rw [eqb_ne (fun h => by cases h; exact eqb_no hq5 rfl)]; exact done rfl rfl
      | false =>
       simp (maxDischargeDepth := 16) [zY]
       refine hK _ _ ?_
       refine CW.ret (hR0 _ _ _ ⟨.lit (.bool false), by simp [zA, omap, zB, zF, lk], ?_⟩)
       rw [eqb_ne (fun h => by cases h; exact eqb_no hq4 rfl)]; exact done rfl rfl
     | false =>
      simp (maxDischargeDepth := 16) [zY]
      refine hK _ _ ?_
      refine CW.ret (hR0 _ _ _ ⟨.lit (.bool false), by simp [zA, omap, zB, zF, lk], ?_⟩)
      rw [eqb_ne (fun h => by cases h; exact eqb_no hq3 rfl)]; exact done rfl rfl
   · simp (maxDischargeDepth := 16) [zY, e2, beqL, eqb_ne e2]
     refine hK _ _ ?_
     refine CW.ret (hR0 _ _ _ ⟨.lit (.bool false), by simp [zA, omap, zB, zF, lk], ?_⟩)
     rw [eqb_ne (fun h => by cases h; exact e2 rfl)]; exact done rfl rfl
 · simp (maxDischargeDepth := 16) [zY, e1, beq_eq_false_iff_ne.2 e1]
   refine hK _ _ ?_
   refine CW.ret (hR0 _ _ _ ⟨.lit (.bool false), by simp [zA, omap, zB, zF, lk], ?_⟩)
   rw [eqb_ne (fun h => by cases h; exact e1 rfl)]; exact done rfl rfl
theorem SameParams_w (hc : S.code = codeP Tryz.prog) (hm : S.ms 47 = []) (h1 : S.sp 79 = some (sameF (fun t : Prm => .agg t.cs) Prm.n 5)) : SameOk S N 47 (fun l => .sl (prmR l) .no) prmN 6 := by
 intro a b σ hl hN
 refine JC.startF (fn := Tryz.f47) (codeOf hc Tryz.func47 rfl (by kernel_rfl)) rfl hm rfl (zL rfl) fun tm => ?_
 refine CW.hide fun R0 hR0 => ?_
 have hlen : a.length ≤ prmN a := prmN_len a
 refine CW.seqK fun K hK => CW.region ?_
 simp (maxDischargeDepth := 16) [zY]
 refine hK _ _ ?_; clear hK K
 refine CW.seqK fun K hK => ?_
 rcases Classical.em (a.length = b.length) with hab | hab
 · refine CW.seqK fun K hK => CW.region ?_
   simp (maxDischargeDepth := 16) [zY, hab]
   refine hK _ _ ?_; clear hK K
   refine CW.cond (t := false) (by simp [zT, zF, lk]) ?_
   refine CW.skip (hK _ _ ?_); clear hK K
   refine CW.seqK fun K hK => ?_
   refine CW.seqK fun K hK => CW.region ?_
   simp (maxDischargeDepth := 16) [zY]
   refine hK _ _ ?_; clear hK K
   refine CW.block (CW.hide fun R hR => ?_)
   refine CW.loopF (fun i : Nat => [(0, .sl (prmR a) .no), (1, .sl (prmR b) .no), (5, .lit (.int .i64 i))]) (fun _ => σ) (fun i => i ≤ a.length ∧ a.take i = b.take i) (fun i => a.length - i) 0 (by simp [sub, lk]) rfl (by simp) ?_
   rintro i tm ⟨hi, hp⟩
   refine CW.hide fun R2 hR2 => CW.seqK fun K3 hK3 => CW.seqK fun K4 hK4 => CW.region ?_
   rcases Nat.lt_or_ge i a.length with hlt | hge
   · simp (maxDischargeDepth := 16) [zY, hlt]
     refine hK4 _ _ ?_
     refine CW.cond (t := true) (by simp [zT, zF, lk]) ?_
     refine CW.skip (hK3 _ _ ?_)
     refine CW.seqK fun K5 hK5 => CW.block ?_
     have hlb : i < b.length := by omega
     have ha := prmR_get hlt
     have hb := prmR_get hlb
     have hnx : a[i] = b[i] → a.take (i + 1) = b.take (i + 1) := fun e => by rw [List.take_add_one, List.take_add_one, hp, List.getElem?_eq_getElem hlt, List.getElem?_eq_getElem hlb, e]
     have hny : a[i] ≠ b[i] → a ≠ b := fun e h => e (by subst h; rfl)
     have hg := prmN_get hlt
     refine CW.seqK fun K hK => CW.draw (by kernel_rfl) ?_
     simp (maxDischargeDepth := 16) [zY, ha, hb, Prm.len, Prm.tk]
     refine call_same a[i] b[i] h1 (agg_inj Prm.inj) (by simp only [nrmR, AV.nrm, Prm.nrm]) (by omega) (by omega) fun hac => ?_
     cases hq : eqb a[i] b[i] with
     | true =>
      rw [hq] at hac
      simp (maxDischargeDepth := 16) [zY, hac]
      refine ⟨by kernel_rfl, hK _ _ ?_⟩
      refine CW.cond (t := false) (by simp [zT, zF, lk]) ?_
      refine CW.skip (hK5 _ _ ?_)
      refine CW.region ?_
      simp (maxDischargeDepth := 16) [zY, wrap_succ (show i ≤ 1000000000000 by omega)]
      exact hR2 _ _ _ ⟨i + 1, _, _, rfl, by simp [sub, lk], rfl, ⟨hlt, hnx (eqb_iff.1 hq)⟩, by omega⟩
     | false =>
      rw [hq] at hac
      simp (maxDischargeDepth := 16) [zY, hac]
      refine ⟨by kernel_rfl, hK _ _ ?_⟩
      refine CW.cond (t := true) (by simp [zT, zF, lk]) ?_
      refine CW.seqK fun K hK => CW.region ?_
      simp (maxDischargeDepth := 16) [zY]
      refine hK _ _ ?_; clear hK K
      refine CW.ret (hR2 _ _ _ (hR _ _ _ (hR0 _ _ _ ⟨.lit (.bool false), by simp [zA, omap, zB, zF, lk], ?_⟩)))
      rw [eqb_ne (hny (eqb_no hq))]; exact done0 rfl rfl
   · simp (maxDischargeDepth := 16) [zY, Nat.not_lt.2 hge]
     refine hK4 _ _ ?_
     refine CW.cond (t := false) (by simp [zT, zF, lk]) ?_
     refine CW.exit (hR2 _ _ _ (hR _ _ _ ?_))
     simp only [outOf, if_true, andThen]
     refine hK _ _ ?_
     refine CW.seqK fun K hK => CW.region ?_
     simp (maxDischargeDepth := 16) [zY]
     refine hK _ _ ?_; clear hK K
     refine CW.ret (hR0 _ _ _ ⟨.lit (.bool true), by simp [zA, omap, zB, zF, lk], ?_⟩)
     rw [List.take_of_length_le hge, List.take_of_length_le (by omega)] at hp
     rw [hp, eqb_self]; exact done0 rfl rfl
 · have hab' : ¬ (a.length : Int) = b.length := by omega
   refine CW.seqK fun K hK => CW.region ?_
   simp (maxDischargeDepth := 16) [zY, hab']
   refine hK _ _ ?_; clear hK K
   refine CW.cond (t := true) (by simp [zT, zF, lk, hab']) ?_
   refine CW.seqK fun K hK => CW.region ?_
   simp (maxDischargeDepth := 16) [zY]
   refine hK _ _ ?_; clear hK K
   refine CW.ret (hR0 _ _ _ ⟨.lit (.bool false), by simp [zA, omap, zB, zF, lk], ?_⟩)
   rw [eqb_ne (fun h => hab (by subst h; rfl))]; exact done0 rfl rfl
theorem SameTypes_w (hc : S.code = codeP Tryz.prog) (hm : S.ms 81 = []) (h1 : S.sp 48 = some (sameF (fun t : Ty => .agg t.cs) Ty.n 4)) : SameOk S N 81 (fun l => .sl (tyR l) .no) tyN 6 := by
 intro a b σ hl hN
 refine JC.startF (fn := Tryz.f81) (codeOf hc Tryz.func81 rfl (by kernel_rfl)) rfl hm rfl (zL rfl) fun tm => ?_
 refine CW.hide fun R0 hR0 => ?_
 have hlen : a.length ≤ tyN a := tyN_len a
 refine CW.seqK fun K hK => CW.region ?_
 simp (maxDischargeDepth := 16) [zY]
 refine hK _ _ ?_; clear hK K
 refine CW.seqK fun K hK => ?_
 rcases Classical.em (a.length = b.length) with hab | hab
 · refine CW.seqK fun K hK => CW.region ?_
   simp (maxDischargeDepth := 16) [zY, hab]
   refine hK _ _ ?_; clear hK K
   refine CW.cond (t := false) (by simp [zT, zF, lk]) ?_
   refine CW.skip (hK _ _ ?_); clear hK K
   refine CW.seqK fun K hK => ?_
   refine CW.seqK fun K hK => CW.region ?_
   simp (maxDischargeDepth := 16) [zY]
   refine hK _ _ ?_; clear hK K
   refine CW.block (CW.hide fun R hR => ?_)
   refine CW.loopF (fun i : Nat => [(0, .sl (tyR a) .no), (1, .sl (tyR b) .no), (5, .lit (.int .i64 i))]) (fun _ => σ) (fun i => i ≤ a.length ∧ a.take i = b.take i) (fun i => a.length - i) 0 (by simp [sub, lk]) rfl (by simp) ?_
   rintro i tm ⟨hi, hp⟩
   refine CW.hide fun R2 hR2 => CW.seqK fun K3 hK3 => CW.seqK fun K4 hK4 => CW.region ?_
   rcases Nat.lt_or_ge i a.length with hlt | hge
   · simp (maxDischargeDepth := 16) [zY, hlt]
     refine hK4 _ _ ?_
     refine CW.cond (t := true) (by simp [zT, zF, lk]) ?_
     refine CW.skip (hK3 _ _ ?_)
     refine CW.seqK fun K5 hK5 => CW.block ?_
     have hlb : i < b.length := by omega
     have ha := tyR_get hlt
     have hb := tyR_get hlb
     have hnx : a[i] = b[i] → a.take (i + 1) = b.take (i + 1) := fun e => by rw [List.take_add_one, List.take_add_one, hp, List.getElem?_eq_getElem hlt, List.getElem?_eq_getElem hlb, e]
     have hny : a[i] ≠ b[i] → a ≠ b := fun e h => e (by subst h; rfl)
     have hg := tyN_get hlt
     refine CW.seqK fun K hK => CW.draw (by kernel_rfl) ?_
     simp (maxDischargeDepth := 16) [zY, ha, hb, Ty.len, Ty.tk]
     refine call_same a[i] b[i] h1 (agg_inj Ty.inj) (by simp only [nrmR, AV.nrm, Ty.nrm]) (by omega) (by omega) fun hac => ?_
     cases hq : eqb a[i] b[i] with
     | true =>
      rw [hq] at hac
      simp (maxDischargeDepth := 16) [zY, hac]
      refine ⟨by kernel_rfl, hK _ _ ?_⟩
      refine CW.cond (t := false) (by simp [zT, zF, lk]) ?_
      refine CW.skip (hK5 _ _ ?_)
      refine CW.region ?_
      simp (maxDischargeDepth := 16) [zY, wrap_succ (show i ≤ 1000000000000 by omega)]
      exact hR2 _ _ _ ⟨i + 1, _, _, rfl, by simp [sub, lk], rfl, ⟨hlt, hnx (eqb_iff.1 hq)⟩, by omega⟩
     | false =>
      rw [hq] at hac
      simp (maxDischargeDepth := 16) [zY, hac]
      refine ⟨by kernel_rfl, hK _ _ ?_⟩
      refine CW.cond (t := true) (by simp [zT, zF, lk]) ?_
      refine CW.seqK fun K hK => CW.region ?_
      simp (maxDischargeDepth := 16) [zY]
      refine hK _ _ ?_; clear hK K
      refine CW.ret (hR2 _ _ _ (hR _ _ _ (hR0 _ _ _ ⟨.lit (.bool false), by simp [zA, omap, zB, zF, lk], ?_⟩)))
      rw [eqb_ne (hny (eqb_no hq))]; exact done0 rfl rfl
   · simp (maxDischargeDepth := 16) [zY, Nat.not_lt.2 hge]
     refine hK4 _ _ ?_
     refine CW.cond (t := false) (by simp [zT, zF, lk]) ?_
     refine CW.exit (hR2 _ _ _ (hR _ _ _ ?_))
     simp only [outOf, if_true, andThen]
     refine hK _ _ ?_
     refine CW.seqK fun K hK => CW.region ?_
     simp (maxDischargeDepth := 16) [zY]
     refine hK _ _ ?_; clear hK K
     refine CW.ret (hR0 _ _ _ ⟨.lit (.bool true), by simp [zA, omap, zB, zF, lk], ?_⟩)
     rw [List.take_of_length_le hge, List.take_of_length_le (by omega)] at hp
     rw [hp, eqb_self]; exact done0 rfl rfl
 · have hab' : ¬ (a.length : Int) = b.length := by omega
   refine CW.seqK fun K hK => CW.region ?_
   simp (maxDischargeDepth := 16) [zY, hab']
   refine hK _ _ ?_; clear hK K
   refine CW.cond (t := true) (by simp [zT, zF, lk, hab']) ?_
   refine CW.seqK fun K hK => CW.region ?_
   simp (maxDischargeDepth := 16) [zY]
   refine hK _ _ ?_; clear hK K
   refine CW.ret (hR0 _ _ _ ⟨.lit (.bool false), by simp [zA, omap, zB, zF, lk], ?_⟩)
   rw [eqb_ne (fun h => hab (by subst h; rfl))]; exact done0 rfl rfl
theorem SameAtom_w (hc : S.code = codeP Tryz.prog) (hm : S.ms 83 = []) (hI : S.sp 115 = some (sameF intA intN 1)) : SameOk S N 83 (fun t : Atm => .agg t.cs) Atm.n 2 := by
 intro a b σ hl hN
 refine JC.startF (fn := Tryz.f83) (codeOf hc Tryz.func83 rfl (by kernel_rfl)) rfl hm rfl (zL rfl) fun tm => ?_
 refine CW.hide fun R0 hR0 => ?_
 obtain ⟨k, nm, ng, dg, tr⟩ := a; obtain ⟨wk, wnm, wng, wdg, wtr⟩ := b
 simp only [Atm.n] at hl hN
 simp only [Atm.cs]
 refine CW.seqK fun K hK => CW.region ?_
 simp (maxDischargeDepth := 16) [zY]
 refine hK _ _ ?_; clear hK K
 refine CW.seqK fun K hK => CW.region ?_
 rcases Classical.em (k = wk) with e1 | e1
 · subst e1
   rcases Classical.em (nm = wnm) with e2 | e2
   · subst e2
     simp (maxDischargeDepth := 16) [zY]
     refine call_same ((ng, dg)) ((wng, wdg)) hI intA_inj (by simp only [nrmR, AV.nrm, limR_nrm]) (by simp only [intN]; omega) (by simp only [intN]; omega) fun _ => ?_
     cases hq3 : eqb ((ng, dg)) ((wng, wdg)) with
     | true =>
      simp (maxDischargeDepth := 16) [zY]
      refine hK _ _ ?_
      refine CW.ret (hR0 _ _ _ ⟨.lit (.bool (tr == wtr)), by simp [zA, omap, zB, zF, lk], ?_⟩)
      cases eqb_iff.1 hq3
      rcases Classical.em (tr = wtr) with e | e
      · subst e; rw [eqb_self, beq_self_eq_true]; exact done rfl rfl
      · rw [eqb_ne (fun h => by cases h; exact e rfl), beq_eq_false_iff_ne.2 e]; exact done rfl rfl
     | false =>
      simp (maxDischargeDepth := 16) [zY]
      refine hK _ _ ?_
      refine CW.ret (hR0 _ _ _ ⟨.lit (.bool false), by simp [zA, omap, zB, zF, lk], ?_⟩)
      rw [eqb_ne (fun h => by cases h; exact eqb_no hq3 rfl)]; exact done rfl rfl
   · simp (maxDischargeDepth := 16) [zY, e2, beqL, eqb_ne e2]
     refine hK _ _ ?_
     refine CW.ret (hR0 _ _ _ ⟨.lit (.bool false), by simp [zA, omap, zB, zF, lk], ?_⟩)
     rw [eqb_ne (fun h => by cases h; exact e2 rfl)]; exact done rfl rfl
 · simp (maxDischargeDepth := 16) [zY, e1, beq_eq_false_iff_ne.2 e1]
   refine hK _ _ ?_
   refine CW.ret (hR0 _ _ _ ⟨.lit (.bool false), by simp [zA, omap, zB, zF, lk], ?_⟩)
   rw [eqb_ne (fun h => by cases h; exact e1 rfl)]; exact done rfl rfl
theorem SameAtoms_w (hc : S.code = codeP Tryz.prog) (hm : S.ms 138 = []) (h1 : S.sp 83 = some (sameF (fun t : Atm => .agg t.cs) Atm.n 2)) : SameOk S N 138 (fun l => .sl (atmR l) .no) atmN 3 := by
 intro a b σ hl hN
 refine JC.startF (fn := Tryz.f138) (codeOf hc Tryz.func138 rfl (by kernel_rfl)) rfl hm rfl (zL rfl) fun tm => ?_
 refine CW.hide fun R0 hR0 => ?_
 have hlen : a.length ≤ atmN a := atmN_len a
 refine CW.seqK fun K hK => CW.region ?_
 simp (maxDischargeDepth := 16) [zY]
 refine hK _ _ ?_; clear hK K
 refine CW.seqK fun K hK => ?_
 rcases Classical.em (a.length = b.length) with hab | hab
 · refine CW.seqK fun K hK => CW.region ?_
   simp (maxDischargeDepth := 16) [zY, hab]
   refine hK _ _ ?_; clear hK K
   refine CW.cond (t := false) (by simp [zT, zF, lk]) ?_
   refine CW.skip (hK _ _ ?_); clear hK K
   refine CW.seqK fun K hK => ?_
   refine CW.seqK fun K hK => CW.region ?_
   simp (maxDischargeDepth := 16) [zY]
   refine hK _ _ ?_; clear hK K
   refine CW.block (CW.hide fun R hR => ?_)
   refine CW.loopF (fun i : Nat => [(0, .sl (atmR a) .no), (1, .sl (atmR b) .no), (5, .lit (.int .i64 i))]) (fun _ => σ) (fun i => i ≤ a.length ∧ a.take i = b.take i) (fun i => a.length - i) 0 (by simp [sub, lk]) rfl (by simp) ?_
   rintro i tm ⟨hi, hp⟩
   refine CW.hide fun R2 hR2 => CW.seqK fun K3 hK3 => CW.seqK fun K4 hK4 => CW.region ?_
   rcases Nat.lt_or_ge i a.length with hlt | hge
   · simp (maxDischargeDepth := 16) [zY, hlt]
     refine hK4 _ _ ?_
     refine CW.cond (t := true) (by simp [zT, zF, lk]) ?_
     refine CW.skip (hK3 _ _ ?_)
     refine CW.seqK fun K5 hK5 => CW.block ?_
     have hlb : i < b.length := by omega
     have ha := atmR_get hlt
     have hb := atmR_get hlb
     have hnx : a[i] = b[i] → a.take (i + 1) = b.take (i + 1) := fun e => by rw [List.take_add_one, List.take_add_one, hp, List.getElem?_eq_getElem hlt, List.getElem?_eq_getElem hlb, e]
     have hny : a[i] ≠ b[i] → a ≠ b := fun e h => e (by subst h; rfl)
     have hg := atmN_get hlt
     refine CW.seqK fun K hK => CW.draw (by kernel_rfl) ?_
     simp (maxDischargeDepth := 16) [zY, ha, hb, Atm.len, Atm.tk]
     refine call_same a[i] b[i] h1 (agg_inj Atm.inj) (by simp only [nrmR, AV.nrm, Atm.nrm]) (by omega) (by omega) fun hac => ?_
     cases hq : eqb a[i] b[i] with
     | true =>
      rw [hq] at hac
      simp (maxDischargeDepth := 16) [zY, hac]
      refine ⟨by kernel_rfl, hK _ _ ?_⟩
      refine CW.cond (t := false) (by simp [zT, zF, lk]) ?_
      refine CW.skip (hK5 _ _ ?_)
      refine CW.region ?_
      simp (maxDischargeDepth := 16) [zY, wrap_succ (show i ≤ 1000000000000 by omega)]
      exact hR2 _ _ _ ⟨i + 1, _, _, rfl, by simp [sub, lk], rfl, ⟨hlt, hnx (eqb_iff.1 hq)⟩, by omega⟩
     | false =>
      rw [hq] at hac
      simp (maxDischargeDepth := 16) [zY, hac]
      refine ⟨by kernel_rfl, hK _ _ ?_⟩
      refine CW.cond (t := true) (by simp [zT, zF, lk]) ?_
      refine CW.seqK fun K hK => CW.region ?_
      simp (maxDischargeDepth := 16) [zY]
      refine hK _ _ ?_; clear hK K
      refine CW.ret (hR2 _ _ _ (hR _ _ _ (hR0 _ _ _ ⟨.lit (.bool false), by simp [zA, omap, zB, zF, lk], ?_⟩)))
      rw [eqb_ne (hny (eqb_no hq))]; exact done0 rfl rfl
   · simp (maxDischargeDepth := 16) [zY, Nat.not_lt.2 hge]
     refine hK4 _ _ ?_
     refine CW.cond (t := false) (by simp [zT, zF, lk]) ?_
     refine CW.exit (hR2 _ _ _ (hR _ _ _ ?_))
     simp only [outOf, if_true, andThen]
     refine hK _ _ ?_
     refine CW.seqK fun K hK => CW.region ?_
     simp (maxDischargeDepth := 16) [zY]
     refine hK _ _ ?_; clear hK K
     refine CW.ret (hR0 _ _ _ ⟨.lit (.bool true), by simp [zA, omap, zB, zF, lk], ?_⟩)
     rw [List.take_of_length_le hge, List.take_of_length_le (by omega)] at hp
     rw [hp, eqb_self]; exact done0 rfl rfl
 · have hab' : ¬ (a.length : Int) = b.length := by omega
   refine CW.seqK fun K hK => CW.region ?_
   simp (maxDischargeDepth := 16) [zY, hab']
   refine hK _ _ ?_; clear hK K
   refine CW.cond (t := true) (by simp [zT, zF, lk, hab']) ?_
   refine CW.seqK fun K hK => CW.region ?_
   simp (maxDischargeDepth := 16) [zY]
   refine hK _ _ ?_; clear hK K
   refine CW.ret (hR0 _ _ _ ⟨.lit (.bool false), by simp [zA, omap, zB, zF, lk], ?_⟩)
   rw [eqb_ne (fun h => hab (by subst h; rfl))]; exact done0 rfl rfl
theorem SameRhs_w (hc : S.code = codeP Tryz.prog) (hm : S.ms 117 = []) (h1 : S.sp 138 = some (sameF (fun l => .sl (atmR l) .no) atmN 3)) (h2 : S.sp 47 = some (sameF (fun l => .sl (prmR l) .no) prmN 6)) (h3 : S.sp 81 = some (sameF (fun l => .sl (tyR l) .no) tyN 6)) (h4 : S.sp 85 = some (sameF (fun l => .sl (expR l) .no) expN 10)) (h5 : S.sp 116 = some (sameF (fun l => .sl (trmR l) .no) trmN 3)) : SameOk S N 117 (fun t : Rhs => .agg t.cs) Rhs.n 9 := by
 intro a b σ hl hN
 refine JC.startF (fn := Tryz.f117) (codeOf hc Tryz.func117 rfl (by kernel_rfl)) rfl hm rfl (zL rfl) fun tm => ?_
 refine CW.hide fun R0 hR0 => ?_
 obtain ⟨k, nm, ats, ps, rs, bd, ts⟩ := a; obtain ⟨wk, wnm, wats, wps, wrs, wbd, wts⟩ := b
 simp only [Rhs.n] at hl hN
 simp only [Rhs.cs]
 refine CW.seqK fun K hK => CW.region ?_
 simp (maxDischargeDepth := 16) [zY]
 refine hK _ _ ?_; clear hK K
 refine CW.seqK fun K hK => CW.region ?_
 rcases Classical.em (k = wk) with e1 | e1
 · subst e1
   rcases Classical.em (nm = wnm) with e2 | e2
   · subst e2
     simp (maxDischargeDepth := 16) [zY]
     refine call_same (ats) (wats) h1 (sl_inj atmR_inj) (by simp only [nrmR, AV.nrm, atmR_nrm]) (by omega) (by omega) fun _ => ?_
     cases hq3 : eqb (ats) (wats) with
     | true =>
      simp (maxDischargeDepth := 16) [zY]
      refine call_same (ps) (wps) h2 (sl_inj prmR_inj) (by simp only [nrmR, AV.nrm, prmR_nrm]) (by omega) (by omega) fun _ => ?_
      cases hq4 : eqb (ps) (wps) with
      | true =>
       simp (maxDischargeDepth := 16) [zY]
       refine call_same (rs) (wrs) h3 (sl_inj tyR_inj) (by simp only [nrmR, AV.nrm, tyR_nrm]) (by omega) (by omega) fun _ => ?_
       cases hq5 : eqb (rs) (wrs) with
       | true =>
        simp (maxDischargeDepth := 16) [zY]
        refine call_same (bd) (wbd) h4 (sl_inj expR_inj) (by simp only [nrmR, AV.nrm, expR_nrm]) (by omega) (by omega) fun _ => ?_
        cases hq6 : eqb (bd) (wbd) with
        | true =>
         simp (maxDischargeDepth := 16) [zY]
         refine call_same (ts) (wts) h5 (sl_inj trmR_inj) (by simp only [nrmR, AV.nrm, trmR_nrm]) (by omega) (by omega) fun _ => ?_
         cases hq7 : eqb (ts) (wts) with
         | true =>
          simp (maxDischargeDepth := 16) [zY]
          refine hK _ _ ?_
          refine CW.ret (hR0 _ _ _ ⟨.lit (.bool true), by simp [zA, omap, zB, zF, lk], ?_⟩)
          cases eqb_iff.1 hq3
          cases eqb_iff.1 hq4
          cases eqb_iff.1 hq5
          cases eqb_iff.1 hq6
          cases eqb_iff.1 hq7
          rw [eqb_self]; exact done rfl rfl
         | false =>
          simp (maxDischargeDepth := 16) [zY]
          refine hK _ _ ?_
          refine CW.ret (hR0 _ _ _ ⟨.lit (.bool false), by simp [zA, omap, zB, zF, lk], ?_⟩)
          rw [eqb_ne (fun h => by cases h; exact eqb_no hq7 rfl)]; exact done rfl rfl
        | false =>
         simp (maxDischargeDepth := 16) [zY]
         refine hK _ _ ?_
         refine CW.ret (hR0 _ _ _ ⟨.lit (.bool false), by simp [zA, omap, zB, zF, lk], ?_⟩)
         rw [eqb_ne (fun h => by cases h; exact eqb_no hq6 rfl)]; exact done rfl rfl
       | false =>
        simp (maxDischargeDepth := 16) [zY]
        refine hK _ _ ?_
        refine CW.ret (hR0 _ _ _ ⟨.lit (.bool false), by simp [zA, omap, zB, zF, lk], ?_⟩)
        rw [eqb_ne (fun h => by cases h; exact eqb_no hq5 rfl)]; exact done rfl rfl
      | false =>
       simp (maxDischargeDepth := 16) [zY]
       refine hK _ _ ?_
       refine CW.ret (hR0 _ _ _ ⟨.lit (.bool false), by simp [zA, omap, zB, zF, lk], ?_⟩)
       rw [eqb_ne (fun h => by cases h; exact eqb_no hq4 rfl)]; exact done rfl rfl
     | false =>
      simp (maxDischargeDepth := 16) [zY]
      refine hK _ _ ?_
      refine CW.ret (hR0 _ _ _ ⟨.lit (.bool false), by simp [zA, omap, zB, zF, lk], ?_⟩)
      rw [eqb_ne (fun h => by cases h; exact eqb_no hq3 rfl)]; exact done rfl rfl
   · simp (maxDischargeDepth := 16) [zY, e2, beqL, eqb_ne e2]
     refine hK _ _ ?_
     refine CW.ret (hR0 _ _ _ ⟨.lit (.bool false), by simp [zA, omap, zB, zF, lk], ?_⟩)
     rw [eqb_ne (fun h => by cases h; exact e2 rfl)]; exact done rfl rfl
 · simp (maxDischargeDepth := 16) [zY, e1, beq_eq_false_iff_ne.2 e1]
   refine hK _ _ ?_
   refine CW.ret (hR0 _ _ _ ⟨.lit (.bool false), by simp [zA, omap, zB, zF, lk], ?_⟩)
   rw [eqb_ne (fun h => by cases h; exact e1 rfl)]; exact done rfl rfl
theorem SameRhss_w (hc : S.code = codeP Tryz.prog) (hm : S.ms 82 = []) (h1 : S.sp 117 = some (sameF (fun t : Rhs => .agg t.cs) Rhs.n 9)) : SameOk S N 82 (fun l => .sl (rhsR l) .no) rhsN 10 := by
 intro a b σ hl hN
 refine JC.startF (fn := Tryz.f82) (codeOf hc Tryz.func82 rfl (by kernel_rfl)) rfl hm rfl (zL rfl) fun tm => ?_
 refine CW.hide fun R0 hR0 => ?_
 have hlen : a.length ≤ rhsN a := rhsN_len a
 refine CW.seqK fun K hK => CW.region ?_
 simp (maxDischargeDepth := 16) [zY]
 refine hK _ _ ?_; clear hK K
 refine CW.seqK fun K hK => ?_
 rcases Classical.em (a.length = b.length) with hab | hab
 · refine CW.seqK fun K hK => CW.region ?_
   simp (maxDischargeDepth := 16) [zY, hab]
   refine hK _ _ ?_; clear hK K
   refine CW.cond (t := false) (by simp [zT, zF, lk]) ?_
   refine CW.skip (hK _ _ ?_); clear hK K
   refine CW.seqK fun K hK => ?_
   refine CW.seqK fun K hK => CW.region ?_
   simp (maxDischargeDepth := 16) [zY]
   refine hK _ _ ?_; clear hK K
   refine CW.block (CW.hide fun R hR => ?_)
   refine CW.loopF (fun i : Nat => [(0, .sl (rhsR a) .no), (1, .sl (rhsR b) .no), (5, .lit (.int .i64 i))]) (fun _ => σ) (fun i => i ≤ a.length ∧ a.take i = b.take i) (fun i => a.length - i) 0 (by simp [sub, lk]) rfl (by simp) ?_
   rintro i tm ⟨hi, hp⟩
   refine CW.hide fun R2 hR2 => CW.seqK fun K3 hK3 => CW.seqK fun K4 hK4 => CW.region ?_
   rcases Nat.lt_or_ge i a.length with hlt | hge
   · simp (maxDischargeDepth := 16) [zY, hlt]
     refine hK4 _ _ ?_
     refine CW.cond (t := true) (by simp [zT, zF, lk]) ?_
     refine CW.skip (hK3 _ _ ?_)
     refine CW.seqK fun K5 hK5 => CW.block ?_
     have hlb : i < b.length := by omega
     have ha := rhsR_get hlt
     have hb := rhsR_get hlb
     have hnx : a[i] = b[i] → a.take (i + 1) = b.take (i + 1) := fun e => by rw [List.take_add_one, List.take_add_one, hp, List.getElem?_eq_getElem hlt, List.getElem?_eq_getElem hlb, e]
     have hny : a[i] ≠ b[i] → a ≠ b := fun e h => e (by subst h; rfl)
     have hg := rhsN_get hlt
     refine CW.seqK fun K hK => CW.draw (by kernel_rfl) ?_
     simp (maxDischargeDepth := 16) [zY, ha, hb, Rhs.len, Rhs.tk]
     refine call_same a[i] b[i] h1 (agg_inj Rhs.inj) (by simp only [nrmR, AV.nrm, Rhs.nrm]) (by omega) (by omega) fun hac => ?_
     cases hq : eqb a[i] b[i] with
     | true =>
      rw [hq] at hac
      simp (maxDischargeDepth := 16) [zY, hac]
      refine ⟨by kernel_rfl, hK _ _ ?_⟩
      refine CW.cond (t := false) (by simp [zT, zF, lk]) ?_
      refine CW.skip (hK5 _ _ ?_)
      refine CW.region ?_
      simp (maxDischargeDepth := 16) [zY, wrap_succ (show i ≤ 1000000000000 by omega)]
      exact hR2 _ _ _ ⟨i + 1, _, _, rfl, by simp [sub, lk], rfl, ⟨hlt, hnx (eqb_iff.1 hq)⟩, by omega⟩
     | false =>
      rw [hq] at hac
      simp (maxDischargeDepth := 16) [zY, hac]
      refine ⟨by kernel_rfl, hK _ _ ?_⟩
      refine CW.cond (t := true) (by simp [zT, zF, lk]) ?_
      refine CW.seqK fun K hK => CW.region ?_
      simp (maxDischargeDepth := 16) [zY]
      refine hK _ _ ?_; clear hK K
      refine CW.ret (hR2 _ _ _ (hR _ _ _ (hR0 _ _ _ ⟨.lit (.bool false), by simp [zA, omap, zB, zF, lk], ?_⟩)))
      rw [eqb_ne (hny (eqb_no hq))]; exact done0 rfl rfl
   · simp (maxDischargeDepth := 16) [zY, Nat.not_lt.2 hge]
     refine hK4 _ _ ?_
     refine CW.cond (t := false) (by simp [zT, zF, lk]) ?_
     refine CW.exit (hR2 _ _ _ (hR _ _ _ ?_))
     simp only [outOf, if_true, andThen]
     refine hK _ _ ?_
     refine CW.seqK fun K hK => CW.region ?_
     simp (maxDischargeDepth := 16) [zY]
     refine hK _ _ ?_; clear hK K
     refine CW.ret (hR0 _ _ _ ⟨.lit (.bool true), by simp [zA, omap, zB, zF, lk], ?_⟩)
     rw [List.take_of_length_le hge, List.take_of_length_le (by omega)] at hp
     rw [hp, eqb_self]; exact done0 rfl rfl
 · have hab' : ¬ (a.length : Int) = b.length := by omega
   refine CW.seqK fun K hK => CW.region ?_
   simp (maxDischargeDepth := 16) [zY, hab']
   refine hK _ _ ?_; clear hK K
   refine CW.cond (t := true) (by simp [zT, zF, lk, hab']) ?_
   refine CW.seqK fun K hK => CW.region ?_
   simp (maxDischargeDepth := 16) [zY]
   refine hK _ _ ?_; clear hK K
   refine CW.ret (hR0 _ _ _ ⟨.lit (.bool false), by simp [zA, omap, zB, zF, lk], ?_⟩)
   rw [eqb_ne (fun h => hab (by subst h; rfl))]; exact done0 rfl rfl
theorem SameArm_w (hc : S.code = codeP Tryz.prog) (hm : S.ms 118 = []) (hX : S.sp 17 = some (sameF (fun l => .sl (txtR l) .no) List.length 0)) (h1 : S.sp 85 = some (sameF (fun l => .sl (expR l) .no) expN 10)) : SameOk S N 118 (fun t : Arm => .agg t.cs) Arm.n 9 := by
 intro a b σ hl hN
 refine JC.startF (fn := Tryz.f118) (codeOf hc Tryz.func118 rfl (by kernel_rfl)) rfl hm rfl (zL rfl) fun tm => ?_
 refine CW.hide fun R0 hR0 => ?_
 obtain ⟨cn, ns, bd⟩ := a; obtain ⟨wcn, wns, wbd⟩ := b
 simp only [Arm.n] at hl hN
 simp only [Arm.cs]
 refine CW.seqK fun K hK => CW.region ?_
 simp (maxDischargeDepth := 16) [zY]
 refine hK _ _ ?_; clear hK K
 refine CW.seqK fun K hK => CW.region ?_
 rcases Classical.em (cn = wcn) with e1 | e1
 · subst e1
   simp (maxDischargeDepth := 16) [zY]
   refine call_same (ns) (wns) hX (sl_inj txtR_inj) (by simp only [nrmR, AV.nrm, txtR_nrm]) (by omega) (by omega) fun _ => ?_
   cases hq2 : eqb (ns) (wns) with
   | true =>
    simp (maxDischargeDepth := 16) [zY]
    refine call_same (bd) (wbd) h1 (sl_inj expR_inj) (by simp only [nrmR, AV.nrm, expR_nrm]) (by omega) (by omega) fun _ => ?_
    cases hq3 : eqb (bd) (wbd) with
    | true =>
     simp (maxDischargeDepth := 16) [zY]
     refine hK _ _ ?_
     refine CW.ret (hR0 _ _ _ ⟨.lit (.bool true), by simp [zA, omap, zB, zF, lk], ?_⟩)
     cases eqb_iff.1 hq2
     cases eqb_iff.1 hq3
     rw [eqb_self]; exact done rfl rfl
    | false =>
     simp (maxDischargeDepth := 16) [zY]
     refine hK _ _ ?_
     refine CW.ret (hR0 _ _ _ ⟨.lit (.bool false), by simp [zA, omap, zB, zF, lk], ?_⟩)
     rw [eqb_ne (fun h => by cases h; exact eqb_no hq3 rfl)]; exact done rfl rfl
   | false =>
    simp (maxDischargeDepth := 16) [zY]
    refine hK _ _ ?_
    refine CW.ret (hR0 _ _ _ ⟨.lit (.bool false), by simp [zA, omap, zB, zF, lk], ?_⟩)
    rw [eqb_ne (fun h => by cases h; exact eqb_no hq2 rfl)]; exact done rfl rfl
 · simp (maxDischargeDepth := 16) [zY, e1, beqL, eqb_ne e1]
   refine hK _ _ ?_
   refine CW.ret (hR0 _ _ _ ⟨.lit (.bool false), by simp [zA, omap, zB, zF, lk], ?_⟩)
   rw [eqb_ne (fun h => by cases h; exact e1 rfl)]; exact done rfl rfl
theorem SameArms_w (hc : S.code = codeP Tryz.prog) (hm : S.ms 84 = []) (h1 : S.sp 118 = some (sameF (fun t : Arm => .agg t.cs) Arm.n 9)) : SameOk S N 84 (fun l => .sl (armR l) .no) armN 10 := by
 intro a b σ hl hN
 refine JC.startF (fn := Tryz.f84) (codeOf hc Tryz.func84 rfl (by kernel_rfl)) rfl hm rfl (zL rfl) fun tm => ?_
 refine CW.hide fun R0 hR0 => ?_
 have hlen : a.length ≤ armN a := armN_len a
 refine CW.seqK fun K hK => CW.region ?_
 simp (maxDischargeDepth := 16) [zY]
 refine hK _ _ ?_; clear hK K
 refine CW.seqK fun K hK => ?_
 rcases Classical.em (a.length = b.length) with hab | hab
 · refine CW.seqK fun K hK => CW.region ?_
   simp (maxDischargeDepth := 16) [zY, hab]
   refine hK _ _ ?_; clear hK K
   refine CW.cond (t := false) (by simp [zT, zF, lk]) ?_
   refine CW.skip (hK _ _ ?_); clear hK K
   refine CW.seqK fun K hK => ?_
   refine CW.seqK fun K hK => CW.region ?_
   simp (maxDischargeDepth := 16) [zY]
   refine hK _ _ ?_; clear hK K
   refine CW.block (CW.hide fun R hR => ?_)
   refine CW.loopF (fun i : Nat => [(0, .sl (armR a) .no), (1, .sl (armR b) .no), (5, .lit (.int .i64 i))]) (fun _ => σ) (fun i => i ≤ a.length ∧ a.take i = b.take i) (fun i => a.length - i) 0 (by simp [sub, lk]) rfl (by simp) ?_
   rintro i tm ⟨hi, hp⟩
   refine CW.hide fun R2 hR2 => CW.seqK fun K3 hK3 => CW.seqK fun K4 hK4 => CW.region ?_
   rcases Nat.lt_or_ge i a.length with hlt | hge
   · simp (maxDischargeDepth := 16) [zY, hlt]
     refine hK4 _ _ ?_
     refine CW.cond (t := true) (by simp [zT, zF, lk]) ?_
     refine CW.skip (hK3 _ _ ?_)
     refine CW.seqK fun K5 hK5 => CW.block ?_
     have hlb : i < b.length := by omega
     have ha := armR_get hlt
     have hb := armR_get hlb
     have hnx : a[i] = b[i] → a.take (i + 1) = b.take (i + 1) := fun e => by rw [List.take_add_one, List.take_add_one, hp, List.getElem?_eq_getElem hlt, List.getElem?_eq_getElem hlb, e]
     have hny : a[i] ≠ b[i] → a ≠ b := fun e h => e (by subst h; rfl)
     have hg := armN_get hlt
     refine CW.seqK fun K hK => CW.draw (by kernel_rfl) ?_
     simp (maxDischargeDepth := 16) [zY, ha, hb, Arm.len, Arm.tk]
     refine call_same a[i] b[i] h1 (agg_inj Arm.inj) (by simp only [nrmR, AV.nrm, Arm.nrm]) (by omega) (by omega) fun hac => ?_
     cases hq : eqb a[i] b[i] with
     | true =>
      rw [hq] at hac
      simp (maxDischargeDepth := 16) [zY, hac]
      refine ⟨by kernel_rfl, hK _ _ ?_⟩
      refine CW.cond (t := false) (by simp [zT, zF, lk]) ?_
      refine CW.skip (hK5 _ _ ?_)
      refine CW.region ?_
      simp (maxDischargeDepth := 16) [zY, wrap_succ (show i ≤ 1000000000000 by omega)]
      exact hR2 _ _ _ ⟨i + 1, _, _, rfl, by simp [sub, lk], rfl, ⟨hlt, hnx (eqb_iff.1 hq)⟩, by omega⟩
     | false =>
      rw [hq] at hac
      simp (maxDischargeDepth := 16) [zY, hac]
      refine ⟨by kernel_rfl, hK _ _ ?_⟩
      refine CW.cond (t := true) (by simp [zT, zF, lk]) ?_
      refine CW.seqK fun K hK => CW.region ?_
      simp (maxDischargeDepth := 16) [zY]
      refine hK _ _ ?_; clear hK K
      refine CW.ret (hR2 _ _ _ (hR _ _ _ (hR0 _ _ _ ⟨.lit (.bool false), by simp [zA, omap, zB, zF, lk], ?_⟩)))
      rw [eqb_ne (hny (eqb_no hq))]; exact done0 rfl rfl
   · simp (maxDischargeDepth := 16) [zY, Nat.not_lt.2 hge]
     refine hK4 _ _ ?_
     refine CW.cond (t := false) (by simp [zT, zF, lk]) ?_
     refine CW.exit (hR2 _ _ _ (hR _ _ _ ?_))
     simp only [outOf, if_true, andThen]
     refine hK _ _ ?_
     refine CW.seqK fun K hK => CW.region ?_
     simp (maxDischargeDepth := 16) [zY]
     refine hK _ _ ?_; clear hK K
     refine CW.ret (hR0 _ _ _ ⟨.lit (.bool true), by simp [zA, omap, zB, zF, lk], ?_⟩)
     rw [List.take_of_length_le hge, List.take_of_length_le (by omega)] at hp
     rw [hp, eqb_self]; exact done0 rfl rfl
 · have hab' : ¬ (a.length : Int) = b.length := by omega
   refine CW.seqK fun K hK => CW.region ?_
   simp (maxDischargeDepth := 16) [zY, hab']
   refine hK _ _ ?_; clear hK K
   refine CW.cond (t := true) (by simp [zT, zF, lk, hab']) ?_
   refine CW.seqK fun K hK => CW.region ?_
   simp (maxDischargeDepth := 16) [zY]
   refine hK _ _ ?_; clear hK K
   refine CW.ret (hR0 _ _ _ ⟨.lit (.bool false), by simp [zA, omap, zB, zF, lk], ?_⟩)
   rw [eqb_ne (fun h => hab (by subst h; rfl))]; exact done0 rfl rfl
theorem SameExpr_w (hc : S.code = codeP Tryz.prog) (hm : S.ms 49 = []) (h1 : S.sp 81 = some (sameF (fun l => .sl (tyR l) .no) tyN 6)) (h2 : S.sp 82 = some (sameF (fun l => .sl (rhsR l) .no) rhsN 10)) (h3 : S.sp 83 = some (sameF (fun t : Atm => .agg t.cs) Atm.n 2)) (h4 : S.sp 84 = some (sameF (fun l => .sl (armR l) .no) armN 10)) (h5 : S.sp 85 = some (sameF (fun l => .sl (expR l) .no) expN 10)) : SameOk S N 49 (fun t : Exp => .agg t.cs) Exp.n 9 := by
 intro a b σ hl hN
 refine JC.startF (fn := Tryz.f49) (codeOf hc Tryz.func49 rfl (by kernel_rfl)) rfl hm rfl (zL rfl) fun tm => ?_
 refine CW.hide fun R0 hR0 => ?_
 obtain ⟨k, nm, ty, rh, ⟨amk, amnm, amng, amdg, amtr⟩, ar, bd⟩ := a; obtain ⟨wk, wnm, wty, wrh, ⟨wamk, wamnm, wamng, wamdg, wamtr⟩, war, wbd⟩ := b
 simp only [Exp.n] at hl hN
 simp only [Exp.cs]
 refine CW.seqK fun K hK => CW.region ?_
 simp (maxDischargeDepth := 16) [zY]
 refine hK _ _ ?_; clear hK K
 refine CW.seqK fun K hK => CW.region ?_
 rcases Classical.em (k = wk) with e1 | e1
 · subst e1
   rcases Classical.em (nm = wnm) with e2 | e2
   · subst e2
     simp (maxDischargeDepth := 16) [zY]
     refine call_same (ty) (wty) h1 (sl_inj tyR_inj) (by simp only [nrmR, AV.nrm, tyR_nrm]) (by omega) (by omega) fun _ => ?_
     cases hq3 : eqb (ty) (wty) with
     | true =>
      simp (maxDischargeDepth := 16) [zY]
      refine call_same (rh) (wrh) h2 (sl_inj rhsR_inj) (by simp only [nrmR, AV.nrm, rhsR_nrm]) (by omega) (by omega) fun _ => ?_
      cases hq4 : eqb (rh) (wrh) with
      | true =>
       simp (maxDischargeDepth := 16) [zY]
       refine call_same (Atm.mk amk amnm amng amdg amtr) (Atm.mk wamk wamnm wamng wamdg wamtr) h3 (agg_inj Atm.inj) (by simp only [nrmR, AV.nrm, limR_nrm, Atm.cs]) (by simp only [Atm.n]; omega) (by simp only [Atm.n]; omega) fun _ => ?_
       cases hq5 : eqb (Atm.mk amk amnm amng amdg amtr) (Atm.mk wamk wamnm wamng wamdg wamtr) with
       | true =>
        simp (maxDischargeDepth := 16) [zY]
        refine call_same (ar) (war) h4 (sl_inj armR_inj) (by simp only [nrmR, AV.nrm, armR_nrm]) (by omega) (by omega) fun _ => ?_
        cases hq6 : eqb (ar) (war) with
        | true =>
         simp (maxDischargeDepth := 16) [zY]
         refine call_same (bd) (wbd) h5 (sl_inj expR_inj) (by simp only [nrmR, AV.nrm, expR_nrm]) (by omega) (by omega) fun _ => ?_
         cases hq7 : eqb (bd) (wbd) with
         | true =>
          simp (maxDischargeDepth := 16) [zY]
          refine hK _ _ ?_
          refine CW.ret (hR0 _ _ _ ⟨.lit (.bool true), by simp [zA, omap, zB, zF, lk], ?_⟩)
          cases eqb_iff.1 hq3
          cases eqb_iff.1 hq4
          cases eqb_iff.1 hq5
          cases eqb_iff.1 hq6
          cases eqb_iff.1 hq7
          rw [eqb_self]; exact done rfl rfl
         | false =>
          simp (maxDischargeDepth := 16) [zY]
          refine hK _ _ ?_
          refine CW.ret (hR0 _ _ _ ⟨.lit (.bool false), by simp [zA, omap, zB, zF, lk], ?_⟩)
          rw [eqb_ne (fun h => by cases h; exact eqb_no hq7 rfl)]; exact done rfl rfl
        | false =>
         simp (maxDischargeDepth := 16) [zY]
         refine hK _ _ ?_
         refine CW.ret (hR0 _ _ _ ⟨.lit (.bool false), by simp [zA, omap, zB, zF, lk], ?_⟩)
         rw [eqb_ne (fun h => by cases h; exact eqb_no hq6 rfl)]; exact done rfl rfl
       | false =>
        simp (maxDischargeDepth := 16) [zY]
        refine hK _ _ ?_
        refine CW.ret (hR0 _ _ _ ⟨.lit (.bool false), by simp [zA, omap, zB, zF, lk], ?_⟩)
        rw [eqb_ne (fun h => by cases h; exact eqb_no hq5 rfl)]; exact done rfl rfl
      | false =>
       simp (maxDischargeDepth := 16) [zY]
       refine hK _ _ ?_
       refine CW.ret (hR0 _ _ _ ⟨.lit (.bool false), by simp [zA, omap, zB, zF, lk], ?_⟩)
       rw [eqb_ne (fun h => by cases h; exact eqb_no hq4 rfl)]; exact done rfl rfl
     | false =>
      simp (maxDischargeDepth := 16) [zY]
      refine hK _ _ ?_
      refine CW.ret (hR0 _ _ _ ⟨.lit (.bool false), by simp [zA, omap, zB, zF, lk], ?_⟩)
      rw [eqb_ne (fun h => by cases h; exact eqb_no hq3 rfl)]; exact done rfl rfl
   · simp (maxDischargeDepth := 16) [zY, e2, beqL, eqb_ne e2]
     refine hK _ _ ?_
     refine CW.ret (hR0 _ _ _ ⟨.lit (.bool false), by simp [zA, omap, zB, zF, lk], ?_⟩)
     rw [eqb_ne (fun h => by cases h; exact e2 rfl)]; exact done rfl rfl
 · simp (maxDischargeDepth := 16) [zY, e1, beq_eq_false_iff_ne.2 e1]
   refine hK _ _ ?_
   refine CW.ret (hR0 _ _ _ ⟨.lit (.bool false), by simp [zA, omap, zB, zF, lk], ?_⟩)
   rw [eqb_ne (fun h => by cases h; exact e1 rfl)]; exact done rfl rfl
theorem SameExprs_w (hc : S.code = codeP Tryz.prog) (hm : S.ms 85 = []) (h1 : S.sp 49 = some (sameF (fun t : Exp => .agg t.cs) Exp.n 9)) : SameOk S N 85 (fun l => .sl (expR l) .no) expN 10 := by
 intro a b σ hl hN
 refine JC.startF (fn := Tryz.f85) (codeOf hc Tryz.func85 rfl (by kernel_rfl)) rfl hm rfl (zL rfl) fun tm => ?_
 refine CW.hide fun R0 hR0 => ?_
 have hlen : a.length ≤ expN a := expN_len a
 refine CW.seqK fun K hK => CW.region ?_
 simp (maxDischargeDepth := 16) [zY]
 refine hK _ _ ?_; clear hK K
 refine CW.seqK fun K hK => ?_
 rcases Classical.em (a.length = b.length) with hab | hab
 · refine CW.seqK fun K hK => CW.region ?_
   simp (maxDischargeDepth := 16) [zY, hab]
   refine hK _ _ ?_; clear hK K
   refine CW.cond (t := false) (by simp [zT, zF, lk]) ?_
   refine CW.skip (hK _ _ ?_); clear hK K
   refine CW.seqK fun K hK => ?_
   refine CW.seqK fun K hK => CW.region ?_
   simp (maxDischargeDepth := 16) [zY]
   refine hK _ _ ?_; clear hK K
   refine CW.block (CW.hide fun R hR => ?_)
   refine CW.loopF (fun i : Nat => [(0, .sl (expR a) .no), (1, .sl (expR b) .no), (5, .lit (.int .i64 i))]) (fun _ => σ) (fun i => i ≤ a.length ∧ a.take i = b.take i) (fun i => a.length - i) 0 (by simp [sub, lk]) rfl (by simp) ?_
   rintro i tm ⟨hi, hp⟩
   refine CW.hide fun R2 hR2 => CW.seqK fun K3 hK3 => CW.seqK fun K4 hK4 => CW.region ?_
   rcases Nat.lt_or_ge i a.length with hlt | hge
   · simp (maxDischargeDepth := 16) [zY, hlt]
     refine hK4 _ _ ?_
     refine CW.cond (t := true) (by simp [zT, zF, lk]) ?_
     refine CW.skip (hK3 _ _ ?_)
     refine CW.seqK fun K5 hK5 => CW.block ?_
     have hlb : i < b.length := by omega
     have ha := expR_get hlt
     have hb := expR_get hlb
     have hnx : a[i] = b[i] → a.take (i + 1) = b.take (i + 1) := fun e => by rw [List.take_add_one, List.take_add_one, hp, List.getElem?_eq_getElem hlt, List.getElem?_eq_getElem hlb, e]
     have hny : a[i] ≠ b[i] → a ≠ b := fun e h => e (by subst h; rfl)
     have hg := expN_get hlt
     refine CW.seqK fun K hK => CW.draw (by kernel_rfl) ?_
     simp (maxDischargeDepth := 16) [zY, ha, hb, Exp.len, Exp.tk]
     refine call_same a[i] b[i] h1 (agg_inj Exp.inj) (by simp only [nrmR, AV.nrm, Exp.nrm]) (by omega) (by omega) fun hac => ?_
     cases hq : eqb a[i] b[i] with
     | true =>
      rw [hq] at hac
      simp (maxDischargeDepth := 16) [zY, hac]
      refine ⟨by kernel_rfl, hK _ _ ?_⟩
      refine CW.cond (t := false) (by simp [zT, zF, lk]) ?_
      refine CW.skip (hK5 _ _ ?_)
      refine CW.region ?_
      simp (maxDischargeDepth := 16) [zY, wrap_succ (show i ≤ 1000000000000 by omega)]
      exact hR2 _ _ _ ⟨i + 1, _, _, rfl, by simp [sub, lk], rfl, ⟨hlt, hnx (eqb_iff.1 hq)⟩, by omega⟩
     | false =>
      rw [hq] at hac
      simp (maxDischargeDepth := 16) [zY, hac]
      refine ⟨by kernel_rfl, hK _ _ ?_⟩
      refine CW.cond (t := true) (by simp [zT, zF, lk]) ?_
      refine CW.seqK fun K hK => CW.region ?_
      simp (maxDischargeDepth := 16) [zY]
      refine hK _ _ ?_; clear hK K
      refine CW.ret (hR2 _ _ _ (hR _ _ _ (hR0 _ _ _ ⟨.lit (.bool false), by simp [zA, omap, zB, zF, lk], ?_⟩)))
      rw [eqb_ne (hny (eqb_no hq))]; exact done0 rfl rfl
   · simp (maxDischargeDepth := 16) [zY, Nat.not_lt.2 hge]
     refine hK4 _ _ ?_
     refine CW.cond (t := false) (by simp [zT, zF, lk]) ?_
     refine CW.exit (hR2 _ _ _ (hR _ _ _ ?_))
     simp only [outOf, if_true, andThen]
     refine hK _ _ ?_
     refine CW.seqK fun K hK => CW.region ?_
     simp (maxDischargeDepth := 16) [zY]
     refine hK _ _ ?_; clear hK K
     refine CW.ret (hR0 _ _ _ ⟨.lit (.bool true), by simp [zA, omap, zB, zF, lk], ?_⟩)
     rw [List.take_of_length_le hge, List.take_of_length_le (by omega)] at hp
     rw [hp, eqb_self]; exact done0 rfl rfl
 · have hab' : ¬ (a.length : Int) = b.length := by omega
   refine CW.seqK fun K hK => CW.region ?_
   simp (maxDischargeDepth := 16) [zY, hab']
   refine hK _ _ ?_; clear hK K
   refine CW.cond (t := true) (by simp [zT, zF, lk, hab']) ?_
   refine CW.seqK fun K hK => CW.region ?_
   simp (maxDischargeDepth := 16) [zY]
   refine hK _ _ ?_; clear hK K
   refine CW.ret (hR0 _ _ _ ⟨.lit (.bool false), by simp [zA, omap, zB, zF, lk], ?_⟩)
   rw [eqb_ne (fun h => hab (by subst h; rfl))]; exact done0 rfl rfl
end Go.Proofs.YteajcnilihgheaaGreatDoor
