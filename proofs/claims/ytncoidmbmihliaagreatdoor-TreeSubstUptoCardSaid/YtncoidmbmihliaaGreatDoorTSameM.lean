/-
 EV: the package tree: same.. (printed by gen_tsame.py).
-/
import Derived.Test.YtncoidmbmihliaaGreatDoorKOfM
import Derived.Test.YtncoidmbmihliaaGreatDoorTKeyM
namespace Go.Proofs.YtncoidmbmihliaaGreatDoor
set_option maxRecDepth 100000
set_option maxHeartbeats 8000000
set_option linter.unusedSimpArgs false
set_option linter.unusedVariables false
open Go.RowKit
noncomputable abbrev sameW {α : Type} (A : α → AV) (n : α → Nat) (r : Nat) : FS := smF (fun p : α × α => [A p.1, A p.2]) (fun p => .lit (.bool (eqb p.1 p.2))) (fun p => n p.1 ≤ 1000000000000 ∧ n p.2 ≤ 1000000000000) (fun p => n p.1 + n p.2) r
noncomputable abbrev sameG {α : Type} (A : α → AV) (g : FuncId) (n : α → Nat) (r : Nat) : FS := smF (fun p : α × α => [A p.1, A p.2, .fn (.func g) [] []]) (fun p => .lit (.bool (eqb p.1 p.2))) (fun p => n p.1 ≤ 1000000000000 ∧ n p.2 ≤ 1000000000000) (fun p => n p.1 + n p.2) r
theorem call_sameW {P : Program} {S : Sp} {N r : Nat} {f : FuncId} {α : Type} {A : α → AV} {n : α → Nat} {args : List AV} {σ : Sto} {Q : ARes → Sto → Prop} (x y : α) (h : S.sp f = some (sameW A n r)) (hi : ∀ a b : α, A a = A b → a = b) (ha : nrmR args = [A x, A y]) (hb : n x ≤ 1000000000000) (hb2 : n y ≤ 1000000000000) (hN : 16 * (n x + n y) + r < N)
    (hq : accW (S.E N) f args σ (.ret (.lit (.bool (eqb x y)))) σ = .lcalls (fun _ => true) → Q (.ret (.lit (.bool (eqb x y)))) σ) : CallW P (S.E N) f args σ Q :=
 call_sm (x, y) h (fun a b e => by
  obtain ⟨a1, a2⟩ := a; obtain ⟨b1, b2⟩ := b
  simp only [List.cons.injEq, and_true] at e
  rw [hi _ _ e.1, hi _ _ e.2]) ha ⟨hb, hb2⟩ hN hq
theorem call_sameG {P : Program} {S : Sp} {N r : Nat} {f g : FuncId} {α : Type} {A : α → AV} {n : α → Nat} {args : List AV} {σ : Sto} {Q : ARes → Sto → Prop} (x y : α) (h : S.sp f = some (sameG A g n r)) (hi : ∀ a b : α, A a = A b → a = b) (ha : nrmR args = [A x, A y, .fn (.func g) [] []]) (hb : n x ≤ 1000000000000) (hb2 : n y ≤ 1000000000000) (hN : 16 * (n x + n y) + r < N)
    (hq : accW (S.E N) f args σ (.ret (.lit (.bool (eqb x y)))) σ = .lcalls (fun _ => true) → Q (.ret (.lit (.bool (eqb x y)))) σ) : CallW P (S.E N) f args σ Q :=
 call_sm (x, y) h (fun a b e => by
  obtain ⟨a1, a2⟩ := a; obtain ⟨b1, b2⟩ := b
  simp only [List.cons.injEq, and_true] at e
  rw [hi _ _ e.1, hi _ _ e.2]) ha ⟨hb, hb2⟩ hN hq
variable {S : Sp} {N : Nat}
mutual
def Ty.w : Ty → Nat
 | .mk fn st rf ps rs => 1 + st.size + rf.w + prmW ps + tyW rs
def tyW : List Ty → Nat
 | [] => 0
 | x :: l => x.w + tyW l
def Prm.w : Prm → Nat
 | .mk nm ty => 1 + nm.size + ty.w
def prmW : List Prm → Nat
 | [] => 0
 | x :: l => x.w + prmW l
end
theorem Ty.w_pos (x : Ty) : 1 ≤ x.w := by obtain ⟨_, _, _, _, _⟩ := x; simp only [Ty.w]; omega
theorem tyW_len (l : List Ty) : l.length ≤ tyW l := by induction l with | nil => exact Nat.le_refl _ | cons x l ih => have := x.w_pos; simp only [List.length_cons, tyW]; omega
theorem tyW_get {l : List Ty} {i : Nat} (h : i < l.length) : l[i].w ≤ tyW l := by
 induction l generalizing i with
 | nil => simp at h
 | cons x l ih =>
  rw [tyW]
  cases i with
  | zero => simp only [List.getElem_cons_zero]; omega
  | succ i => have := ih (i := i) (by simpa using h); simp only [List.getElem_cons_succ]; omega
theorem Prm.w_pos (x : Prm) : 1 ≤ x.w := by obtain ⟨_, _⟩ := x; simp only [Prm.w]; omega
theorem prmW_len (l : List Prm) : l.length ≤ prmW l := by induction l with | nil => exact Nat.le_refl _ | cons x l ih => have := x.w_pos; simp only [List.length_cons, prmW]; omega
theorem prmW_get {l : List Prm} {i : Nat} (h : i < l.length) : l[i].w ≤ prmW l := by
 induction l generalizing i with
 | nil => simp at h
 | cons x l ih =>
  rw [prmW]
  cases i with
  | zero => simp only [List.getElem_cons_zero]; omega
  | succ i => have := ih (i := i) (by simpa using h); simp only [List.getElem_cons_succ]; omega
def Atm.w : Atm → Nat
 | .mk k nm ng dg tr => 1 + nm.size + dg.length
def atmW : List Atm → Nat
 | [] => 0
 | x :: l => x.w + atmW l
theorem Atm.w_pos (x : Atm) : 1 ≤ x.w := by obtain ⟨_, _, _, _, _⟩ := x; simp only [Atm.w]; omega
theorem atmW_len (l : List Atm) : l.length ≤ atmW l := by induction l with | nil => exact Nat.le_refl _ | cons x l ih => have := x.w_pos; simp only [List.length_cons, atmW]; omega
theorem atmW_get {l : List Atm} {i : Nat} (h : i < l.length) : l[i].w ≤ atmW l := by
 induction l generalizing i with
 | nil => simp at h
 | cons x l ih =>
  rw [atmW]
  cases i with
  | zero => simp only [List.getElem_cons_zero]; omega
  | succ i => have := ih (i := i) (by simpa using h); simp only [List.getElem_cons_succ]; omega
mutual
def Exp.w : Exp → Nat
 | .mk k nm ty rh am ar bd => 1 + nm.size + tyW ty + rhsW rh + am.w + armW ar + expW bd
def expW : List Exp → Nat
 | [] => 0
 | x :: l => x.w + expW l
def Rhs.w : Rhs → Nat
 | .mk k nm ats ps rs bd ts => 1 + nm.size + atmW ats + prmW ps + tyW rs + expW bd + trmW ts
def rhsW : List Rhs → Nat
 | [] => 0
 | x :: l => x.w + rhsW l
def Arm.w : Arm → Nat
 | .mk cn ns bd => 1 + cn.size + txtW ns + expW bd
def armW : List Arm → Nat
 | [] => 0
 | x :: l => x.w + armW l
end
theorem Exp.w_pos (x : Exp) : 1 ≤ x.w := by obtain ⟨_, _, _, _, _, _, _⟩ := x; simp only [Exp.w]; omega
theorem expW_len (l : List Exp) : l.length ≤ expW l := by induction l with | nil => exact Nat.le_refl _ | cons x l ih => have := x.w_pos; simp only [List.length_cons, expW]; omega
theorem expW_get {l : List Exp} {i : Nat} (h : i < l.length) : l[i].w ≤ expW l := by
 induction l generalizing i with
 | nil => simp at h
 | cons x l ih =>
  rw [expW]
  cases i with
  | zero => simp only [List.getElem_cons_zero]; omega
  | succ i => have := ih (i := i) (by simpa using h); simp only [List.getElem_cons_succ]; omega
theorem Rhs.w_pos (x : Rhs) : 1 ≤ x.w := by obtain ⟨_, _, _, _, _, _, _⟩ := x; simp only [Rhs.w]; omega
theorem rhsW_len (l : List Rhs) : l.length ≤ rhsW l := by induction l with | nil => exact Nat.le_refl _ | cons x l ih => have := x.w_pos; simp only [List.length_cons, rhsW]; omega
theorem rhsW_get {l : List Rhs} {i : Nat} (h : i < l.length) : l[i].w ≤ rhsW l := by
 induction l generalizing i with
 | nil => simp at h
 | cons x l ih =>
  rw [rhsW]
  cases i with
  | zero => simp only [List.getElem_cons_zero]; omega
  | succ i => have := ih (i := i) (by simpa using h); simp only [List.getElem_cons_succ]; omega
theorem Arm.w_pos (x : Arm) : 1 ≤ x.w := by obtain ⟨_, _, _⟩ := x; simp only [Arm.w]; omega
theorem armW_len (l : List Arm) : l.length ≤ armW l := by induction l with | nil => exact Nat.le_refl _ | cons x l ih => have := x.w_pos; simp only [List.length_cons, armW]; omega
theorem armW_get {l : List Arm} {i : Nat} (h : i < l.length) : l[i].w ≤ armW l := by
 induction l generalizing i with
 | nil => simp at h
 | cons x l ih =>
  rw [armW]
  cases i with
  | zero => simp only [List.getElem_cons_zero]; omega
  | succ i => have := ih (i := i) (by simpa using h); simp only [List.getElem_cons_succ]; omega
theorem EqL_w (hc : S.code = codeP Tryz.prog) (hm : S.ms 71 = []) : SmOk Tryz.prog S N 71 (fun p : (List Int) × (List Int) => [(fun l : List Int => .sl (limR l) .no) p.1, (fun l : List Int => .sl (limR l) .no) p.2]) (fun p : (List Int) × (List Int) => .lit (.bool (eqb p.1 p.2))) (fun p : (List Int) × (List Int) => List.length p.1 ≤ 1000000000000 ∧ List.length p.2 ≤ 1000000000000) (fun p : (List Int) × (List Int) => List.length p.1 + List.length p.2) 0 := by
 rintro ⟨a, b⟩ σ ⟨hl, hl2⟩ hN
 dsimp only at hl hl2 hN ⊢
 refine JC.startF (fn := Tryz.f71) (codeOf hc Tryz.func71 rfl (by kernel_rfl)) rfl hm rfl (zL rfl) fun tm => ?_
 refine CW.hide fun R0 hR0 => ?_
 have hlen : a.length ≤ List.length a := Nat.le_refl _
 refine CW.seqK fun K hK => CW.region ?_
 simp (maxDischargeDepth := 16) [zY]
 refine hK _ _ ?_; clear hK K
 refine CW.seqK fun K hK => ?_
 rcases Classical.em (a.length = b.length) with hab | hab
 · refine CW.seqK fun K hK => CW.region ?_
   simp (maxDischargeDepth := 16) [zY, hab]
   refine hK _ _ ?_; clear hK K
   refine CW.cond (t := false) (by simp [zT, zF, lk]) ?_
   refine CW.skip (hK _ _ ?_); clear hK K
   refine CW.seqK fun K hK => ?_
   refine CW.seqK fun K hK => CW.region ?_
   simp (maxDischargeDepth := 16) [zY]
   refine hK _ _ ?_; clear hK K
   refine CW.block (CW.hide fun R hR => ?_)
   refine CW.loopF (fun i : Nat => [(0, .sl (limR a) .no), (1, .sl (limR b) .no), (12, intV a.length), (13, intV i)]) (fun _ => σ) (fun i => i ≤ a.length ∧ a.take i = b.take i) (fun i => a.length - i) 0 (by simp [sub, lk]) rfl (by simp) ?_
   rintro i tm ⟨hi, hp⟩
   refine CW.hide fun R2 hR2 => CW.seqK fun K4 hK4 => CW.region ?_
   rcases Nat.lt_or_ge i a.length with hlt | hge
   · simp (maxDischargeDepth := 16) [zY, hlt]
     refine hK4 _ _ ?_
     refine CW.seqK fun K3 hK3 => ?_
     refine CW.cond (t := true) (by simp [zT, zF, lk]) ?_
     refine CW.skip (hK3 _ _ ?_)
     refine CW.seqK fun K5 hK5 => CW.block ?_
     have hlb : i < b.length := by omega
     have ha := limR_get hlt
     have hb := limR_get hlb
     have hnx : a[i] = b[i] → a.take (i + 1) = b.take (i + 1) := fun e => by rw [List.take_add_one, List.take_add_one, hp, List.getElem?_eq_getElem hlt, List.getElem?_eq_getElem hlb, e]
     have hny : a[i] ≠ b[i] → a ≠ b := fun e h => e (by subst h; rfl)
     refine CW.seqK fun K hK => CW.region ?_
     simp (maxDischargeDepth := 16) [zY]
     refine hK _ _ ?_; clear hK K
     rcases Classical.em (a[i] = b[i]) with e | e
     · refine CW.seqK fun K hK => CW.draw (by kernel_rfl) ?_
       simp (maxDischargeDepth := 16) [zY, ha, hb, e]
       refine ⟨by kernel_rfl, hK _ _ ?_⟩; clear hK K
       refine CW.cond (t := false) (by simp [zT, zF, lk, e]) ?_
       refine CW.skip (hK5 _ _ ?_)
       refine CW.region ?_
       simp (maxDischargeDepth := 16) [zY, wrap_succ (show i ≤ 1000000000000 by omega)]
       exact hR2 _ _ _ ⟨i + 1, _, _, rfl, by simp [sub, lk], rfl, ⟨hlt, hnx e⟩, by omega⟩
     · have e2 := eqb_ne e
       refine CW.seqK fun K hK => CW.draw (by kernel_rfl) ?_
       simp (maxDischargeDepth := 16) [zY, ha, hb, e, beqL, e2]
       refine ⟨by kernel_rfl, hK _ _ ?_⟩; clear hK K
       refine CW.cond (t := true) (by simp [zT, zF, lk, e]) ?_
       refine CW.seqK fun K hK => CW.region ?_
       simp (maxDischargeDepth := 16) [zY]
       refine hK _ _ ?_; clear hK K
       refine CW.ret (hR2 _ _ _ (hR _ _ _ (hR0 _ _ _ ⟨.lit (.bool false), by simp [zA, omap, zB, zF, lk], ?_⟩)))
       rw [eqb_ne (hny e)]; exact done0 rfl rfl
   · simp (maxDischargeDepth := 16) [zY, Nat.not_lt.2 hge]
     refine hK4 _ _ ?_
     refine CW.seqK fun K3 hK3 => ?_
     refine CW.cond (t := false) (by simp [zT, zF, lk]) ?_
     refine CW.exit (hR2 _ _ _ (hR _ _ _ ?_))
     simp only [outOf, if_true, andThen]
     refine hK _ _ ?_
     refine CW.seqK fun K hK => CW.region ?_
     simp (maxDischargeDepth := 16) [zY]
     refine hK _ _ ?_; clear hK K
     refine CW.ret (hR0 _ _ _ ⟨.lit (.bool true), by simp [zA, omap, zB, zF, lk], ?_⟩)
     rw [List.take_of_length_le hge, List.take_of_length_le (by omega)] at hp
     rw [hp, eqb_self]; exact done0 rfl rfl
 · have hab' : ¬ (a.length : Int) = b.length := by omega
   refine CW.seqK fun K hK => CW.region ?_
   simp (maxDischargeDepth := 16) [zY, hab']
   refine hK _ _ ?_; clear hK K
   refine CW.cond (t := true) (by simp [zT, zF, lk, hab']) ?_
   refine CW.seqK fun K hK => CW.region ?_
   simp (maxDischargeDepth := 16) [zY]
   refine hK _ _ ?_; clear hK K
   refine CW.ret (hR0 _ _ _ ⟨.lit (.bool false), by simp [zA, omap, zB, zF, lk], ?_⟩)
   rw [eqb_ne (fun h => hab (by subst h; rfl))]; exact done0 rfl rfl
theorem EqX_w (hc : S.code = codeP Tryz.prog) (hm : S.ms 81 = []) : SmOk Tryz.prog S N 81 (fun p : (List ByteArray) × (List ByteArray) => [(fun l : List ByteArray => .sl (txtR l) .no) p.1, (fun l : List ByteArray => .sl (txtR l) .no) p.2]) (fun p : (List ByteArray) × (List ByteArray) => .lit (.bool (eqb p.1 p.2))) (fun p : (List ByteArray) × (List ByteArray) => txtW p.1 ≤ 1000000000000 ∧ txtW p.2 ≤ 1000000000000) (fun p : (List ByteArray) × (List ByteArray) => txtW p.1 + txtW p.2) 0 := by
 rintro ⟨a, b⟩ σ ⟨hl, hl2⟩ hN
 dsimp only at hl hl2 hN ⊢
 refine JC.startF (fn := Tryz.f81) (codeOf hc Tryz.func81 rfl (by kernel_rfl)) rfl hm rfl (zL rfl) fun tm => ?_
 refine CW.hide fun R0 hR0 => ?_
 have hlen : a.length ≤ txtW a := txtW_len a
 refine CW.seqK fun K hK => CW.region ?_
 simp (maxDischargeDepth := 16) [zY]
 refine hK _ _ ?_; clear hK K
 refine CW.seqK fun K hK => ?_
 rcases Classical.em (a.length = b.length) with hab | hab
 · refine CW.seqK fun K hK => CW.region ?_
   simp (maxDischargeDepth := 16) [zY, hab]
   refine hK _ _ ?_; clear hK K
   refine CW.cond (t := false) (by simp [zT, zF, lk]) ?_
   refine CW.skip (hK _ _ ?_); clear hK K
   refine CW.seqK fun K hK => ?_
   refine CW.seqK fun K hK => CW.region ?_
   simp (maxDischargeDepth := 16) [zY]
   refine hK _ _ ?_; clear hK K
   refine CW.block (CW.hide fun R hR => ?_)
   refine CW.loopF (fun i : Nat => [(0, .sl (txtR a) .no), (1, .sl (txtR b) .no), (12, intV a.length), (13, intV i)]) (fun _ => σ) (fun i => i ≤ a.length ∧ a.take i = b.take i) (fun i => a.length - i) 0 (by simp [sub, lk]) rfl (by simp) ?_
   rintro i tm ⟨hi, hp⟩
   refine CW.hide fun R2 hR2 => CW.seqK fun K4 hK4 => CW.region ?_
   rcases Nat.lt_or_ge i a.length with hlt | hge
   · simp (maxDischargeDepth := 16) [zY, hlt]
     refine hK4 _ _ ?_
     refine CW.seqK fun K3 hK3 => ?_
     refine CW.cond (t := true) (by simp [zT, zF, lk]) ?_
     refine CW.skip (hK3 _ _ ?_)
     refine CW.seqK fun K5 hK5 => CW.block ?_
     have hlb : i < b.length := by omega
     have ha := txtR_get hlt
     have hb := txtR_get hlb
     have hnx : a[i] = b[i] → a.take (i + 1) = b.take (i + 1) := fun e => by rw [List.take_add_one, List.take_add_one, hp, List.getElem?_eq_getElem hlt, List.getElem?_eq_getElem hlb, e]
     have hny : a[i] ≠ b[i] → a ≠ b := fun e h => e (by subst h; rfl)
     refine CW.seqK fun K hK => CW.region ?_
     simp (maxDischargeDepth := 16) [zY]
     refine hK _ _ ?_; clear hK K
     rcases Classical.em (a[i] = b[i]) with e | e
     · refine CW.seqK fun K hK => CW.draw (by kernel_rfl) ?_
       simp (maxDischargeDepth := 16) [zY, ha, hb, e]
       refine ⟨by kernel_rfl, hK _ _ ?_⟩; clear hK K
       refine CW.cond (t := false) (by simp [zT, zF, lk, e]) ?_
       refine CW.skip (hK5 _ _ ?_)
       refine CW.region ?_
       simp (maxDischargeDepth := 16) [zY, wrap_succ (show i ≤ 1000000000000 by omega)]
       exact hR2 _ _ _ ⟨i + 1, _, _, rfl, by simp [sub, lk], rfl, ⟨hlt, hnx e⟩, by omega⟩
     · have e2 := eqb_ne e
       refine CW.seqK fun K hK => CW.draw (by kernel_rfl) ?_
       simp (maxDischargeDepth := 16) [zY, ha, hb, e, beqL, e2]
       refine ⟨by kernel_rfl, hK _ _ ?_⟩; clear hK K
       refine CW.cond (t := true) (by simp [zT, zF, lk, e]) ?_
       refine CW.seqK fun K hK => CW.region ?_
       simp (maxDischargeDepth := 16) [zY]
       refine hK _ _ ?_; clear hK K
       refine CW.ret (hR2 _ _ _ (hR _ _ _ (hR0 _ _ _ ⟨.lit (.bool false), by simp [zA, omap, zB, zF, lk], ?_⟩)))
       rw [eqb_ne (hny e)]; exact done0 rfl rfl
   · simp (maxDischargeDepth := 16) [zY, Nat.not_lt.2 hge]
     refine hK4 _ _ ?_
     refine CW.seqK fun K3 hK3 => ?_
     refine CW.cond (t := false) (by simp [zT, zF, lk]) ?_
     refine CW.exit (hR2 _ _ _ (hR _ _ _ ?_))
     simp only [outOf, if_true, andThen]
     refine hK _ _ ?_
     refine CW.seqK fun K hK => CW.region ?_
     simp (maxDischargeDepth := 16) [zY]
     refine hK _ _ ?_; clear hK K
     refine CW.ret (hR0 _ _ _ ⟨.lit (.bool true), by simp [zA, omap, zB, zF, lk], ?_⟩)
     rw [List.take_of_length_le hge, List.take_of_length_le (by omega)] at hp
     rw [hp, eqb_self]; exact done0 rfl rfl
 · have hab' : ¬ (a.length : Int) = b.length := by omega
   refine CW.seqK fun K hK => CW.region ?_
   simp (maxDischargeDepth := 16) [zY, hab']
   refine hK _ _ ?_; clear hK K
   refine CW.cond (t := true) (by simp [zT, zF, lk, hab']) ?_
   refine CW.seqK fun K hK => CW.region ?_
   simp (maxDischargeDepth := 16) [zY]
   refine hK _ _ ?_; clear hK K
   refine CW.ret (hR0 _ _ _ ⟨.lit (.bool false), by simp [zA, omap, zB, zF, lk], ?_⟩)
   rw [eqb_ne (fun h => hab (by subst h; rfl))]; exact done0 rfl rfl
theorem EqFTrm_w (hc : S.code = codeP Tryz.prog) (hm : S.ms 115 = []) (h1 : S.sp 73 = some (sameW (fun t : Trm => .agg t.cs) Trm.w 2)) : SmOk Tryz.prog S N 115 (fun p : (List Trm) × (List Trm) => [(fun l : List Trm => .sl (trmR l) .no) p.1, (fun l : List Trm => .sl (trmR l) .no) p.2, .fn (.func 73) [] []]) (fun p : (List Trm) × (List Trm) => .lit (.bool (eqb p.1 p.2))) (fun p : (List Trm) × (List Trm) => trmW p.1 ≤ 1000000000000 ∧ trmW p.2 ≤ 1000000000000) (fun p : (List Trm) × (List Trm) => trmW p.1 + trmW p.2) 3 := by
 rintro ⟨a, b⟩ σ ⟨hl, hl2⟩ hN
 dsimp only at hl hl2 hN ⊢
 refine JC.startF (fn := Tryz.f115) (codeOf hc Tryz.func115 rfl (by kernel_rfl)) rfl hm rfl (zL rfl) fun tm => ?_
 refine CW.hide fun R0 hR0 => ?_
 have hlen := trmW_len a
 refine CW.seqK fun K hK => CW.region ?_
 simp (maxDischargeDepth := 16) [zY]
 refine hK _ _ ?_; clear hK K
 refine CW.seqK fun K hK => ?_
 rcases Classical.em (a.length = b.length) with hab | hab
 · refine CW.seqK fun K hK => CW.region ?_
   simp (maxDischargeDepth := 16) [zY, hab]
   refine hK _ _ ?_; clear hK K
   refine CW.cond (t := false) (by simp [zT, zF, lk]) ?_
   refine CW.skip (hK _ _ ?_); clear hK K
   refine CW.seqK fun K hK => ?_
   refine CW.seqK fun K hK => CW.region ?_
   simp (maxDischargeDepth := 16) [zY]
   refine hK _ _ ?_; clear hK K
   refine CW.block (CW.hide fun R hR => ?_)
   refine CW.loopF (fun p : Nat × List AObj => [(0, .sl (trmR a) .no), (1, .sl (trmR b) .no), (2, .fn (.func 73) [] []), (15, .sl (trmR a) .no), (16, intV a.length), (17, intV p.1)]) (fun p => σ ++ p.2) (fun p => p.1 ≤ a.length ∧ a.take p.1 = b.take p.1) (fun p => a.length - p.1) (0, []) (by simp [sub, lk]) (by simp) (by simp) ?_
   rintro ⟨i, g⟩ tm ⟨hi, hp⟩
   dsimp only at hi hp ⊢
   refine CW.hide fun R2 hR2 => CW.seqK fun K4 hK4 => CW.region ?_
   rcases Nat.lt_or_ge i a.length with hlt | hge
   · simp (maxDischargeDepth := 16) [zY, hlt]
     refine hK4 _ _ ?_
     refine CW.seqK fun K3 hK3 => ?_
     refine CW.cond (t := true) (by simp [zT, zF, lk]) ?_
     refine CW.skip (hK3 _ _ ?_)
     refine CW.seqK fun K5 hK5 => CW.block ?_
     have hlb : i < b.length := by omega
     have ha := trmR_get hlt
     have hb := trmR_get hlb
     have hga := trmW_get hlt
     have hgb := trmW_get hlb
     have hnx : a[i] = b[i] → a.take (i + 1) = b.take (i + 1) := fun e => by rw [List.take_add_one, List.take_add_one, hp, List.getElem?_eq_getElem hlt, List.getElem?_eq_getElem hlb, e]
     have hny : a[i] ≠ b[i] → a ≠ b := fun e h => e (by subst h; rfl)
     refine CW.seqK fun K hK => CW.region ?_
     simp (maxDischargeDepth := 16) [zY, ha, Trm.len, Trm.tk, Trm.put]
     refine hK _ _ ?_; clear hK K
     refine CW.seqK fun K hK => CW.region ?_
     simp (maxDischargeDepth := 16) [zY, hb, Trm.len, Trm.tk, Trm.put]
     refine hK _ _ ?_; clear hK K
     refine CW.seqK fun K hK => CW.region ?_
     simp (maxDischargeDepth := 16) [zY, Trm.len, Trm.tk]
     refine call_sameW a[i] b[i] h1 (agg_inj Trm.inj) (by simp only [nrmR, AV.nrm, Trm.nrm]) (by omega) (by omega) (by omega) fun _ => ?_
     cases hq : eqb a[i] b[i] with
     | true =>
      simp (maxDischargeDepth := 16) [zY]
      refine hK _ _ ?_
      refine CW.cond (t := false) (by simp [zT, zF, lk]) ?_
      refine CW.skip (hK5 _ _ ?_)
      refine CW.region ?_
      simp (maxDischargeDepth := 16) [zY, wrap_succ (show i ≤ 1000000000000 by omega)]
      exact hR2 _ _ _ ⟨(i + 1, _), _, _, rfl, by simp [sub, lk], rfl, ⟨hlt, hnx (eqb_iff.1 hq)⟩, by show a.length - (i + 1) < a.length - i; omega⟩
     | false =>
      simp (maxDischargeDepth := 16) [zY]
      refine hK _ _ ?_
      refine CW.cond (t := true) (by simp [zT, zF, lk]) ?_
      refine CW.seqK fun K hK => CW.region ?_
      simp (maxDischargeDepth := 16) [zY]
      refine hK _ _ ?_; clear hK K
      refine CW.ret (hR2 _ _ _ (hR _ _ _ (hR0 _ _ _ ⟨.lit (.bool false), by simp [zA, omap, zB, zF, lk], ?_⟩)))
      rw [eqb_ne (hny (eqb_no hq))]; exact done rfl rfl
   · simp (maxDischargeDepth := 16) [zY, Nat.not_lt.2 hge]
     refine hK4 _ _ ?_
     refine CW.seqK fun K3 hK3 => ?_
     refine CW.cond (t := false) (by simp [zT, zF, lk]) ?_
     refine CW.exit (hR2 _ _ _ (hR _ _ _ ?_))
     simp only [outOf, if_true, andThen]
     refine hK _ _ ?_
     refine CW.seqK fun K hK => CW.region ?_
     simp (maxDischargeDepth := 16) [zY]
     refine hK _ _ ?_; clear hK K
     refine CW.ret (hR0 _ _ _ ⟨.lit (.bool true), by simp [zA, omap, zB, zF, lk], ?_⟩)
     rw [List.take_of_length_le hge, List.take_of_length_le (by omega)] at hp
     rw [hp, eqb_self]; exact done rfl rfl
 · have hab' : ¬ (a.length : Int) = b.length := by omega
   refine CW.seqK fun K hK => CW.region ?_
   simp (maxDischargeDepth := 16) [zY, hab']
   refine hK _ _ ?_; clear hK K
   refine CW.cond (t := true) (by simp [zT, zF, lk, hab']) ?_
   refine CW.seqK fun K hK => CW.region ?_
   simp (maxDischargeDepth := 16) [zY]
   refine hK _ _ ?_; clear hK K
   refine CW.ret (hR0 _ _ _ ⟨.lit (.bool false), by simp [zA, omap, zB, zF, lk], ?_⟩)
   rw [eqb_ne (fun h => hab (by subst h; rfl))]; exact done0 rfl rfl
theorem SameGTrm_w (hc : S.code = codeP Tryz.prog) (hm : S.ms 78 = []) (h1 : S.sp 115 = some (sameG (fun l : List Trm => .sl (trmR l) .no) 73 trmW 3)) : SmOk Tryz.prog S N 78 (fun p : (List Trm) × (List Trm) => [(fun l : List Trm => .sl (trmR l) .no) p.1, (fun l : List Trm => .sl (trmR l) .no) p.2, .fn (.func 73) [] []]) (fun p : (List Trm) × (List Trm) => .lit (.bool (eqb p.1 p.2))) (fun p : (List Trm) × (List Trm) => trmW p.1 ≤ 1000000000000 ∧ trmW p.2 ≤ 1000000000000) (fun p : (List Trm) × (List Trm) => trmW p.1 + trmW p.2) 4 := by
 rintro ⟨a, b⟩ σ ⟨hl, hl2⟩ hN
 dsimp only at hl hl2 hN ⊢
 refine JC.startF (fn := Tryz.f78) (codeOf hc Tryz.func78 rfl (by kernel_rfl)) rfl hm rfl (zL rfl) fun tm => ?_
 refine CW.hide fun R0 hR0 => ?_
 refine CW.seqK fun K hK => CW.region ?_
 simp (maxDischargeDepth := 16) [zY]
 refine hK _ _ ?_; clear hK K
 refine CW.seqK fun K hK => CW.region ?_
 simp (maxDischargeDepth := 16) [zY]
 refine call_sameG a b h1 (sl_inj trmR_inj) (by simp only [nrmR, AV.nrm, trmR_nrm]) hl hl2 (by omega) fun _ => ?_
 simp (maxDischargeDepth := 16) [zY]
 refine hK _ _ (CW.ret (hR0 _ _ _ ⟨.lit (.bool (eqb a b)), by simp [zA, omap, zB, zF, lk], done0 rfl rfl⟩))
theorem EqFAtm_w (hc : S.code = codeP Tryz.prog) (hm : S.ms 114 = []) (h1 : S.sp 39 = some (sameW (fun t : Atm => .agg t.cs) Atm.w 2)) : SmOk Tryz.prog S N 114 (fun p : (List Atm) × (List Atm) => [(fun l : List Atm => .sl (atmR l) .no) p.1, (fun l : List Atm => .sl (atmR l) .no) p.2, .fn (.func 39) [] []]) (fun p : (List Atm) × (List Atm) => .lit (.bool (eqb p.1 p.2))) (fun p : (List Atm) × (List Atm) => atmW p.1 ≤ 1000000000000 ∧ atmW p.2 ≤ 1000000000000) (fun p : (List Atm) × (List Atm) => atmW p.1 + atmW p.2) 3 := by
 rintro ⟨a, b⟩ σ ⟨hl, hl2⟩ hN
 dsimp only at hl hl2 hN ⊢
 refine JC.startF (fn := Tryz.f114) (codeOf hc Tryz.func114 rfl (by kernel_rfl)) rfl hm rfl (zL rfl) fun tm => ?_
 refine CW.hide fun R0 hR0 => ?_
 have hlen := atmW_len a
 refine CW.seqK fun K hK => CW.region ?_
 simp (maxDischargeDepth := 16) [zY]
 refine hK _ _ ?_; clear hK K
 refine CW.seqK fun K hK => ?_
 rcases Classical.em (a.length = b.length) with hab | hab
 · refine CW.seqK fun K hK => CW.region ?_
   simp (maxDischargeDepth := 16) [zY, hab]
   refine hK _ _ ?_; clear hK K
   refine CW.cond (t := false) (by simp [zT, zF, lk]) ?_
   refine CW.skip (hK _ _ ?_); clear hK K
   refine CW.seqK fun K hK => ?_
   refine CW.seqK fun K hK => CW.region ?_
   simp (maxDischargeDepth := 16) [zY]
   refine hK _ _ ?_; clear hK K
   refine CW.block (CW.hide fun R hR => ?_)
   refine CW.loopF (fun p : Nat × List AObj => [(0, .sl (atmR a) .no), (1, .sl (atmR b) .no), (2, .fn (.func 39) [] []), (15, .sl (atmR a) .no), (16, intV a.length), (17, intV p.1)]) (fun p => σ ++ p.2) (fun p => p.1 ≤ a.length ∧ a.take p.1 = b.take p.1) (fun p => a.length - p.1) (0, []) (by simp [sub, lk]) (by simp) (by simp) ?_
   rintro ⟨i, g⟩ tm ⟨hi, hp⟩
   dsimp only at hi hp ⊢
   refine CW.hide fun R2 hR2 => CW.seqK fun K4 hK4 => CW.region ?_
   rcases Nat.lt_or_ge i a.length with hlt | hge
   · simp (maxDischargeDepth := 16) [zY, hlt]
     refine hK4 _ _ ?_
     refine CW.seqK fun K3 hK3 => ?_
     refine CW.cond (t := true) (by simp [zT, zF, lk]) ?_
     refine CW.skip (hK3 _ _ ?_)
     refine CW.seqK fun K5 hK5 => CW.block ?_
     have hlb : i < b.length := by omega
     have ha := atmR_get hlt
     have hb := atmR_get hlb
     have hga := atmW_get hlt
     have hgb := atmW_get hlb
     have hnx : a[i] = b[i] → a.take (i + 1) = b.take (i + 1) := fun e => by rw [List.take_add_one, List.take_add_one, hp, List.getElem?_eq_getElem hlt, List.getElem?_eq_getElem hlb, e]
     have hny : a[i] ≠ b[i] → a ≠ b := fun e h => e (by subst h; rfl)
     refine CW.seqK fun K hK => CW.region ?_
     simp (maxDischargeDepth := 16) [zY, ha, Atm.len, Atm.tk, Atm.put]
     refine hK _ _ ?_; clear hK K
     refine CW.seqK fun K hK => CW.region ?_
     simp (maxDischargeDepth := 16) [zY, hb, Atm.len, Atm.tk, Atm.put]
     refine hK _ _ ?_; clear hK K
     refine CW.seqK fun K hK => CW.region ?_
     simp (maxDischargeDepth := 16) [zY, Atm.len, Atm.tk]
     refine call_sameW a[i] b[i] h1 (agg_inj Atm.inj) (by simp only [nrmR, AV.nrm, Atm.nrm]) (by omega) (by omega) (by omega) fun _ => ?_
     cases hq : eqb a[i] b[i] with
     | true =>
      simp (maxDischargeDepth := 16) [zY]
      refine hK _ _ ?_
      refine CW.cond (t := false) (by simp [zT, zF, lk]) ?_
      refine CW.skip (hK5 _ _ ?_)
      refine CW.region ?_
      simp (maxDischargeDepth := 16) [zY, wrap_succ (show i ≤ 1000000000000 by omega)]
      exact hR2 _ _ _ ⟨(i + 1, _), _, _, rfl, by simp [sub, lk], rfl, ⟨hlt, hnx (eqb_iff.1 hq)⟩, by show a.length - (i + 1) < a.length - i; omega⟩
     | false =>
      simp (maxDischargeDepth := 16) [zY]
      refine hK _ _ ?_
      refine CW.cond (t := true) (by simp [zT, zF, lk]) ?_
      refine CW.seqK fun K hK => CW.region ?_
      simp (maxDischargeDepth := 16) [zY]
      refine hK _ _ ?_; clear hK K
      refine CW.ret (hR2 _ _ _ (hR _ _ _ (hR0 _ _ _ ⟨.lit (.bool false), by simp [zA, omap, zB, zF, lk], ?_⟩)))
      rw [eqb_ne (hny (eqb_no hq))]; exact done rfl rfl
   · simp (maxDischargeDepth := 16) [zY, Nat.not_lt.2 hge]
     refine hK4 _ _ ?_
     refine CW.seqK fun K3 hK3 => ?_
     refine CW.cond (t := false) (by simp [zT, zF, lk]) ?_
     refine CW.exit (hR2 _ _ _ (hR _ _ _ ?_))
     simp only [outOf, if_true, andThen]
     refine hK _ _ ?_
     refine CW.seqK fun K hK => CW.region ?_
     simp (maxDischargeDepth := 16) [zY]
     refine hK _ _ ?_; clear hK K
     refine CW.ret (hR0 _ _ _ ⟨.lit (.bool true), by simp [zA, omap, zB, zF, lk], ?_⟩)
     rw [List.take_of_length_le hge, List.take_of_length_le (by omega)] at hp
     rw [hp, eqb_self]; exact done rfl rfl
 · have hab' : ¬ (a.length : Int) = b.length := by omega
   refine CW.seqK fun K hK => CW.region ?_
   simp (maxDischargeDepth := 16) [zY, hab']
   refine hK _ _ ?_; clear hK K
   refine CW.cond (t := true) (by simp [zT, zF, lk, hab']) ?_
   refine CW.seqK fun K hK => CW.region ?_
   simp (maxDischargeDepth := 16) [zY]
   refine hK _ _ ?_; clear hK K
   refine CW.ret (hR0 _ _ _ ⟨.lit (.bool false), by simp [zA, omap, zB, zF, lk], ?_⟩)
   rw [eqb_ne (fun h => hab (by subst h; rfl))]; exact done0 rfl rfl
theorem SameGAtm_w (hc : S.code = codeP Tryz.prog) (hm : S.ms 77 = []) (h1 : S.sp 114 = some (sameG (fun l : List Atm => .sl (atmR l) .no) 39 atmW 3)) : SmOk Tryz.prog S N 77 (fun p : (List Atm) × (List Atm) => [(fun l : List Atm => .sl (atmR l) .no) p.1, (fun l : List Atm => .sl (atmR l) .no) p.2, .fn (.func 39) [] []]) (fun p : (List Atm) × (List Atm) => .lit (.bool (eqb p.1 p.2))) (fun p : (List Atm) × (List Atm) => atmW p.1 ≤ 1000000000000 ∧ atmW p.2 ≤ 1000000000000) (fun p : (List Atm) × (List Atm) => atmW p.1 + atmW p.2) 4 := by
 rintro ⟨a, b⟩ σ ⟨hl, hl2⟩ hN
 dsimp only at hl hl2 hN ⊢
 refine JC.startF (fn := Tryz.f77) (codeOf hc Tryz.func77 rfl (by kernel_rfl)) rfl hm rfl (zL rfl) fun tm => ?_
 refine CW.hide fun R0 hR0 => ?_
 refine CW.seqK fun K hK => CW.region ?_
 simp (maxDischargeDepth := 16) [zY]
 refine hK _ _ ?_; clear hK K
 refine CW.seqK fun K hK => CW.region ?_
 simp (maxDischargeDepth := 16) [zY]
 refine call_sameG a b h1 (sl_inj atmR_inj) (by simp only [nrmR, AV.nrm, atmR_nrm]) hl hl2 (by omega) fun _ => ?_
 simp (maxDischargeDepth := 16) [zY]
 refine hK _ _ (CW.ret (hR0 _ _ _ ⟨.lit (.bool (eqb a b)), by simp [zA, omap, zB, zF, lk], done0 rfl rfl⟩))
theorem EqFPrm_w (hc : S.code = codeP Tryz.prog) (hm : S.ms 113 = []) (h1 : S.sp 75 = some (sameW (fun t : Prm => .agg t.cs) Prm.w 2)) : SmOk Tryz.prog S N 113 (fun p : (List Prm) × (List Prm) => [(fun l : List Prm => .sl (prmR l) .no) p.1, (fun l : List Prm => .sl (prmR l) .no) p.2, .fn (.func 75) [] []]) (fun p : (List Prm) × (List Prm) => .lit (.bool (eqb p.1 p.2))) (fun p : (List Prm) × (List Prm) => prmW p.1 ≤ 1000000000000 ∧ prmW p.2 ≤ 1000000000000) (fun p : (List Prm) × (List Prm) => prmW p.1 + prmW p.2) 3 := by
 rintro ⟨a, b⟩ σ ⟨hl, hl2⟩ hN
 dsimp only at hl hl2 hN ⊢
 refine JC.startF (fn := Tryz.f113) (codeOf hc Tryz.func113 rfl (by kernel_rfl)) rfl hm rfl (zL rfl) fun tm => ?_
 refine CW.hide fun R0 hR0 => ?_
 have hlen := prmW_len a
 refine CW.seqK fun K hK => CW.region ?_
 simp (maxDischargeDepth := 16) [zY]
 refine hK _ _ ?_; clear hK K
 refine CW.seqK fun K hK => ?_
 rcases Classical.em (a.length = b.length) with hab | hab
 · refine CW.seqK fun K hK => CW.region ?_
   simp (maxDischargeDepth := 16) [zY, hab]
   refine hK _ _ ?_; clear hK K
   refine CW.cond (t := false) (by simp [zT, zF, lk]) ?_
   refine CW.skip (hK _ _ ?_); clear hK K
   refine CW.seqK fun K hK => ?_
   refine CW.seqK fun K hK => CW.region ?_
   simp (maxDischargeDepth := 16) [zY]
   refine hK _ _ ?_; clear hK K
   refine CW.block (CW.hide fun R hR => ?_)
   refine CW.loopF (fun p : Nat × List AObj => [(0, .sl (prmR a) .no), (1, .sl (prmR b) .no), (2, .fn (.func 75) [] []), (15, .sl (prmR a) .no), (16, intV a.length), (17, intV p.1)]) (fun p => σ ++ p.2) (fun p => p.1 ≤ a.length ∧ a.take p.1 = b.take p.1) (fun p => a.length - p.1) (0, []) (by simp [sub, lk]) (by simp) (by simp) ?_
   rintro ⟨i, g⟩ tm ⟨hi, hp⟩
   dsimp only at hi hp ⊢
   refine CW.hide fun R2 hR2 => CW.seqK fun K4 hK4 => CW.region ?_
   rcases Nat.lt_or_ge i a.length with hlt | hge
   · simp (maxDischargeDepth := 16) [zY, hlt]
     refine hK4 _ _ ?_
     refine CW.seqK fun K3 hK3 => ?_
     refine CW.cond (t := true) (by simp [zT, zF, lk]) ?_
     refine CW.skip (hK3 _ _ ?_)
     refine CW.seqK fun K5 hK5 => CW.block ?_
     have hlb : i < b.length := by omega
     have ha := prmR_get hlt
     have hb := prmR_get hlb
     have hga := prmW_get hlt
     have hgb := prmW_get hlb
     have hnx : a[i] = b[i] → a.take (i + 1) = b.take (i + 1) := fun e => by rw [List.take_add_one, List.take_add_one, hp, List.getElem?_eq_getElem hlt, List.getElem?_eq_getElem hlb, e]
     have hny : a[i] ≠ b[i] → a ≠ b := fun e h => e (by subst h; rfl)
     refine CW.seqK fun K hK => CW.region ?_
     simp (maxDischargeDepth := 16) [zY, ha, Prm.len, Prm.tk, Prm.put]
     refine hK _ _ ?_; clear hK K
     refine CW.seqK fun K hK => CW.region ?_
     simp (maxDischargeDepth := 16) [zY, hb, Prm.len, Prm.tk, Prm.put]
     refine hK _ _ ?_; clear hK K
     refine CW.seqK fun K hK => CW.region ?_
     simp (maxDischargeDepth := 16) [zY, Prm.len, Prm.tk]
     refine call_sameW a[i] b[i] h1 (agg_inj Prm.inj) (by simp only [nrmR, AV.nrm, Prm.nrm]) (by omega) (by omega) (by omega) fun _ => ?_
     cases hq : eqb a[i] b[i] with
     | true =>
      simp (maxDischargeDepth := 16) [zY]
      refine hK _ _ ?_
      refine CW.cond (t := false) (by simp [zT, zF, lk]) ?_
      refine CW.skip (hK5 _ _ ?_)
      refine CW.region ?_
      simp (maxDischargeDepth := 16) [zY, wrap_succ (show i ≤ 1000000000000 by omega)]
      exact hR2 _ _ _ ⟨(i + 1, _), _, _, rfl, by simp [sub, lk], rfl, ⟨hlt, hnx (eqb_iff.1 hq)⟩, by show a.length - (i + 1) < a.length - i; omega⟩
     | false =>
      simp (maxDischargeDepth := 16) [zY]
      refine hK _ _ ?_
      refine CW.cond (t := true) (by simp [zT, zF, lk]) ?_
      refine CW.seqK fun K hK => CW.region ?_
      simp (maxDischargeDepth := 16) [zY]
      refine hK _ _ ?_; clear hK K
      refine CW.ret (hR2 _ _ _ (hR _ _ _ (hR0 _ _ _ ⟨.lit (.bool false), by simp [zA, omap, zB, zF, lk], ?_⟩)))
      rw [eqb_ne (hny (eqb_no hq))]; exact done rfl rfl
   · simp (maxDischargeDepth := 16) [zY, Nat.not_lt.2 hge]
     refine hK4 _ _ ?_
     refine CW.seqK fun K3 hK3 => ?_
     refine CW.cond (t := false) (by simp [zT, zF, lk]) ?_
     refine CW.exit (hR2 _ _ _ (hR _ _ _ ?_))
     simp only [outOf, if_true, andThen]
     refine hK _ _ ?_
     refine CW.seqK fun K hK => CW.region ?_
     simp (maxDischargeDepth := 16) [zY]
     refine hK _ _ ?_; clear hK K
     refine CW.ret (hR0 _ _ _ ⟨.lit (.bool true), by simp [zA, omap, zB, zF, lk], ?_⟩)
     rw [List.take_of_length_le hge, List.take_of_length_le (by omega)] at hp
     rw [hp, eqb_self]; exact done rfl rfl
 · have hab' : ¬ (a.length : Int) = b.length := by omega
   refine CW.seqK fun K hK => CW.region ?_
   simp (maxDischargeDepth := 16) [zY, hab']
   refine hK _ _ ?_; clear hK K
   refine CW.cond (t := true) (by simp [zT, zF, lk, hab']) ?_
   refine CW.seqK fun K hK => CW.region ?_
   simp (maxDischargeDepth := 16) [zY]
   refine hK _ _ ?_; clear hK K
   refine CW.ret (hR0 _ _ _ ⟨.lit (.bool false), by simp [zA, omap, zB, zF, lk], ?_⟩)
   rw [eqb_ne (fun h => hab (by subst h; rfl))]; exact done0 rfl rfl
theorem SameGPrm_w (hc : S.code = codeP Tryz.prog) (hm : S.ms 74 = []) (h1 : S.sp 113 = some (sameG (fun l : List Prm => .sl (prmR l) .no) 75 prmW 3)) : SmOk Tryz.prog S N 74 (fun p : (List Prm) × (List Prm) => [(fun l : List Prm => .sl (prmR l) .no) p.1, (fun l : List Prm => .sl (prmR l) .no) p.2, .fn (.func 75) [] []]) (fun p : (List Prm) × (List Prm) => .lit (.bool (eqb p.1 p.2))) (fun p : (List Prm) × (List Prm) => prmW p.1 ≤ 1000000000000 ∧ prmW p.2 ≤ 1000000000000) (fun p : (List Prm) × (List Prm) => prmW p.1 + prmW p.2) 4 := by
 rintro ⟨a, b⟩ σ ⟨hl, hl2⟩ hN
 dsimp only at hl hl2 hN ⊢
 refine JC.startF (fn := Tryz.f74) (codeOf hc Tryz.func74 rfl (by kernel_rfl)) rfl hm rfl (zL rfl) fun tm => ?_
 refine CW.hide fun R0 hR0 => ?_
 refine CW.seqK fun K hK => CW.region ?_
 simp (maxDischargeDepth := 16) [zY]
 refine hK _ _ ?_; clear hK K
 refine CW.seqK fun K hK => CW.region ?_
 simp (maxDischargeDepth := 16) [zY]
 refine call_sameG a b h1 (sl_inj prmR_inj) (by simp only [nrmR, AV.nrm, prmR_nrm]) hl hl2 (by omega) fun _ => ?_
 simp (maxDischargeDepth := 16) [zY]
 refine hK _ _ (CW.ret (hR0 _ _ _ ⟨.lit (.bool (eqb a b)), by simp [zA, omap, zB, zF, lk], done0 rfl rfl⟩))
theorem EqFTy_w (hc : S.code = codeP Tryz.prog) (hm : S.ms 72 = []) (h1 : S.sp 41 = some (sameW (fun t : Ty => .agg t.cs) Ty.w 2)) : SmOk Tryz.prog S N 72 (fun p : (List Ty) × (List Ty) => [(fun l : List Ty => .sl (tyR l) .no) p.1, (fun l : List Ty => .sl (tyR l) .no) p.2, .fn (.func 41) [] []]) (fun p : (List Ty) × (List Ty) => .lit (.bool (eqb p.1 p.2))) (fun p : (List Ty) × (List Ty) => tyW p.1 ≤ 1000000000000 ∧ tyW p.2 ≤ 1000000000000) (fun p : (List Ty) × (List Ty) => tyW p.1 + tyW p.2) 3 := by
 rintro ⟨a, b⟩ σ ⟨hl, hl2⟩ hN
 dsimp only at hl hl2 hN ⊢
 refine JC.startF (fn := Tryz.f72) (codeOf hc Tryz.func72 rfl (by kernel_rfl)) rfl hm rfl (zL rfl) fun tm => ?_
 refine CW.hide fun R0 hR0 => ?_
 have hlen := tyW_len a
 refine CW.seqK fun K hK => CW.region ?_
 simp (maxDischargeDepth := 16) [zY]
 refine hK _ _ ?_; clear hK K
 refine CW.seqK fun K hK => ?_
 rcases Classical.em (a.length = b.length) with hab | hab
 · refine CW.seqK fun K hK => CW.region ?_
   simp (maxDischargeDepth := 16) [zY, hab]
   refine hK _ _ ?_; clear hK K
   refine CW.cond (t := false) (by simp [zT, zF, lk]) ?_
   refine CW.skip (hK _ _ ?_); clear hK K
   refine CW.seqK fun K hK => ?_
   refine CW.seqK fun K hK => CW.region ?_
   simp (maxDischargeDepth := 16) [zY]
   refine hK _ _ ?_; clear hK K
   refine CW.block (CW.hide fun R hR => ?_)
   refine CW.loopF (fun p : Nat × List AObj => [(0, .sl (tyR a) .no), (1, .sl (tyR b) .no), (2, .fn (.func 41) [] []), (15, .sl (tyR a) .no), (16, intV a.length), (17, intV p.1)]) (fun p => σ ++ p.2) (fun p => p.1 ≤ a.length ∧ a.take p.1 = b.take p.1) (fun p => a.length - p.1) (0, []) (by simp [sub, lk]) (by simp) (by simp) ?_
   rintro ⟨i, g⟩ tm ⟨hi, hp⟩
   dsimp only at hi hp ⊢
   refine CW.hide fun R2 hR2 => CW.seqK fun K4 hK4 => CW.region ?_
   rcases Nat.lt_or_ge i a.length with hlt | hge
   · simp (maxDischargeDepth := 16) [zY, hlt]
     refine hK4 _ _ ?_
     refine CW.seqK fun K3 hK3 => ?_
     refine CW.cond (t := true) (by simp [zT, zF, lk]) ?_
     refine CW.skip (hK3 _ _ ?_)
     refine CW.seqK fun K5 hK5 => CW.block ?_
     have hlb : i < b.length := by omega
     have ha := tyR_get hlt
     have hb := tyR_get hlb
     have hga := tyW_get hlt
     have hgb := tyW_get hlb
     have hnx : a[i] = b[i] → a.take (i + 1) = b.take (i + 1) := fun e => by rw [List.take_add_one, List.take_add_one, hp, List.getElem?_eq_getElem hlt, List.getElem?_eq_getElem hlb, e]
     have hny : a[i] ≠ b[i] → a ≠ b := fun e h => e (by subst h; rfl)
     refine CW.seqK fun K hK => CW.region ?_
     simp (maxDischargeDepth := 16) [zY, ha, Ty.len, Ty.tk, Ty.put]
     refine hK _ _ ?_; clear hK K
     refine CW.seqK fun K hK => CW.region ?_
     simp (maxDischargeDepth := 16) [zY, hb, Ty.len, Ty.tk, Ty.put]
     refine hK _ _ ?_; clear hK K
     refine CW.seqK fun K hK => CW.region ?_
     simp (maxDischargeDepth := 16) [zY, Ty.len, Ty.tk]
     refine call_sameW a[i] b[i] h1 (agg_inj Ty.inj) (by simp only [nrmR, AV.nrm, Ty.nrm]) (by omega) (by omega) (by omega) fun _ => ?_
     cases hq : eqb a[i] b[i] with
     | true =>
      simp (maxDischargeDepth := 16) [zY]
      refine hK _ _ ?_
      refine CW.cond (t := false) (by simp [zT, zF, lk]) ?_
      refine CW.skip (hK5 _ _ ?_)
      refine CW.region ?_
      simp (maxDischargeDepth := 16) [zY, wrap_succ (show i ≤ 1000000000000 by omega)]
      exact hR2 _ _ _ ⟨(i + 1, _), _, _, rfl, by simp [sub, lk], rfl, ⟨hlt, hnx (eqb_iff.1 hq)⟩, by show a.length - (i + 1) < a.length - i; omega⟩
     | false =>
      simp (maxDischargeDepth := 16) [zY]
      refine hK _ _ ?_
      refine CW.cond (t := true) (by simp [zT, zF, lk]) ?_
      refine CW.seqK fun K hK => CW.region ?_
      simp (maxDischargeDepth := 16) [zY]
      refine hK _ _ ?_; clear hK K
      refine CW.ret (hR2 _ _ _ (hR _ _ _ (hR0 _ _ _ ⟨.lit (.bool false), by simp [zA, omap, zB, zF, lk], ?_⟩)))
      rw [eqb_ne (hny (eqb_no hq))]; exact done rfl rfl
   · simp (maxDischargeDepth := 16) [zY, Nat.not_lt.2 hge]
     refine hK4 _ _ ?_
     refine CW.seqK fun K3 hK3 => ?_
     refine CW.cond (t := false) (by simp [zT, zF, lk]) ?_
     refine CW.exit (hR2 _ _ _ (hR _ _ _ ?_))
     simp only [outOf, if_true, andThen]
     refine hK _ _ ?_
     refine CW.seqK fun K hK => CW.region ?_
     simp (maxDischargeDepth := 16) [zY]
     refine hK _ _ ?_; clear hK K
     refine CW.ret (hR0 _ _ _ ⟨.lit (.bool true), by simp [zA, omap, zB, zF, lk], ?_⟩)
     rw [List.take_of_length_le hge, List.take_of_length_le (by omega)] at hp
     rw [hp, eqb_self]; exact done rfl rfl
 · have hab' : ¬ (a.length : Int) = b.length := by omega
   refine CW.seqK fun K hK => CW.region ?_
   simp (maxDischargeDepth := 16) [zY, hab']
   refine hK _ _ ?_; clear hK K
   refine CW.cond (t := true) (by simp [zT, zF, lk, hab']) ?_
   refine CW.seqK fun K hK => CW.region ?_
   simp (maxDischargeDepth := 16) [zY]
   refine hK _ _ ?_; clear hK K
   refine CW.ret (hR0 _ _ _ ⟨.lit (.bool false), by simp [zA, omap, zB, zF, lk], ?_⟩)
   rw [eqb_ne (fun h => hab (by subst h; rfl))]; exact done0 rfl rfl
theorem SameGTy_w (hc : S.code = codeP Tryz.prog) (hm : S.ms 40 = []) (h1 : S.sp 72 = some (sameG (fun l : List Ty => .sl (tyR l) .no) 41 tyW 3)) : SmOk Tryz.prog S N 40 (fun p : (List Ty) × (List Ty) => [(fun l : List Ty => .sl (tyR l) .no) p.1, (fun l : List Ty => .sl (tyR l) .no) p.2, .fn (.func 41) [] []]) (fun p : (List Ty) × (List Ty) => .lit (.bool (eqb p.1 p.2))) (fun p : (List Ty) × (List Ty) => tyW p.1 ≤ 1000000000000 ∧ tyW p.2 ≤ 1000000000000) (fun p : (List Ty) × (List Ty) => tyW p.1 + tyW p.2) 4 := by
 rintro ⟨a, b⟩ σ ⟨hl, hl2⟩ hN
 dsimp only at hl hl2 hN ⊢
 refine JC.startF (fn := Tryz.f40) (codeOf hc Tryz.func40 rfl (by kernel_rfl)) rfl hm rfl (zL rfl) fun tm => ?_
 refine CW.hide fun R0 hR0 => ?_
 refine CW.seqK fun K hK => CW.region ?_
 simp (maxDischargeDepth := 16) [zY]
 refine hK _ _ ?_; clear hK K
 refine CW.seqK fun K hK => CW.region ?_
 simp (maxDischargeDepth := 16) [zY]
 refine call_sameG a b h1 (sl_inj tyR_inj) (by simp only [nrmR, AV.nrm, tyR_nrm]) hl hl2 (by omega) fun _ => ?_
 simp (maxDischargeDepth := 16) [zY]
 refine hK _ _ (CW.ret (hR0 _ _ _ ⟨.lit (.bool (eqb a b)), by simp [zA, omap, zB, zF, lk], done0 rfl rfl⟩))
theorem EqFRhs_w (hc : S.code = codeP Tryz.prog) (hm : S.ms 76 = []) (h1 : S.sp 43 = some (sameW (fun t : Rhs => .agg t.cs) Rhs.w 2)) : SmOk Tryz.prog S N 76 (fun p : (List Rhs) × (List Rhs) => [(fun l : List Rhs => .sl (rhsR l) .no) p.1, (fun l : List Rhs => .sl (rhsR l) .no) p.2, .fn (.func 43) [] []]) (fun p : (List Rhs) × (List Rhs) => .lit (.bool (eqb p.1 p.2))) (fun p : (List Rhs) × (List Rhs) => rhsW p.1 ≤ 1000000000000 ∧ rhsW p.2 ≤ 1000000000000) (fun p : (List Rhs) × (List Rhs) => rhsW p.1 + rhsW p.2) 3 := by
 rintro ⟨a, b⟩ σ ⟨hl, hl2⟩ hN
 dsimp only at hl hl2 hN ⊢
 refine JC.startF (fn := Tryz.f76) (codeOf hc Tryz.func76 rfl (by kernel_rfl)) rfl hm rfl (zL rfl) fun tm => ?_
 refine CW.hide fun R0 hR0 => ?_
 have hlen := rhsW_len a
 refine CW.seqK fun K hK => CW.region ?_
 simp (maxDischargeDepth := 16) [zY]
 refine hK _ _ ?_; clear hK K
 refine CW.seqK fun K hK => ?_
 rcases Classical.em (a.length = b.length) with hab | hab
 · refine CW.seqK fun K hK => CW.region ?_
   simp (maxDischargeDepth := 16) [zY, hab]
   refine hK _ _ ?_; clear hK K
   refine CW.cond (t := false) (by simp [zT, zF, lk]) ?_
   refine CW.skip (hK _ _ ?_); clear hK K
   refine CW.seqK fun K hK => ?_
   refine CW.seqK fun K hK => CW.region ?_
   simp (maxDischargeDepth := 16) [zY]
   refine hK _ _ ?_; clear hK K
   refine CW.block (CW.hide fun R hR => ?_)
   refine CW.loopF (fun p : Nat × List AObj => [(0, .sl (rhsR a) .no), (1, .sl (rhsR b) .no), (2, .fn (.func 43) [] []), (15, .sl (rhsR a) .no), (16, intV a.length), (17, intV p.1)]) (fun p => σ ++ p.2) (fun p => p.1 ≤ a.length ∧ a.take p.1 = b.take p.1) (fun p => a.length - p.1) (0, []) (by simp [sub, lk]) (by simp) (by simp) ?_
   rintro ⟨i, g⟩ tm ⟨hi, hp⟩
   dsimp only at hi hp ⊢
   refine CW.hide fun R2 hR2 => CW.seqK fun K4 hK4 => CW.region ?_
   rcases Nat.lt_or_ge i a.length with hlt | hge
   · simp (maxDischargeDepth := 16) [zY, hlt]
     refine hK4 _ _ ?_
     refine CW.seqK fun K3 hK3 => ?_
     refine CW.cond (t := true) (by simp [zT, zF, lk]) ?_
     refine CW.skip (hK3 _ _ ?_)
     refine CW.seqK fun K5 hK5 => CW.block ?_
     have hlb : i < b.length := by omega
     have ha := rhsR_get hlt
     have hb := rhsR_get hlb
     have hga := rhsW_get hlt
     have hgb := rhsW_get hlb
     have hnx : a[i] = b[i] → a.take (i + 1) = b.take (i + 1) := fun e => by rw [List.take_add_one, List.take_add_one, hp, List.getElem?_eq_getElem hlt, List.getElem?_eq_getElem hlb, e]
     have hny : a[i] ≠ b[i] → a ≠ b := fun e h => e (by subst h; rfl)
     refine CW.seqK fun K hK => CW.region ?_
     simp (maxDischargeDepth := 16) [zY, ha, Rhs.len, Rhs.tk, Rhs.put]
     refine hK _ _ ?_; clear hK K
     refine CW.seqK fun K hK => CW.region ?_
     simp (maxDischargeDepth := 16) [zY, hb, Rhs.len, Rhs.tk, Rhs.put]
     refine hK _ _ ?_; clear hK K
     refine CW.seqK fun K hK => CW.region ?_
     simp (maxDischargeDepth := 16) [zY, Rhs.len, Rhs.tk]
     refine call_sameW a[i] b[i] h1 (agg_inj Rhs.inj) (by simp only [nrmR, AV.nrm, Rhs.nrm]) (by omega) (by omega) (by omega) fun _ => ?_
     cases hq : eqb a[i] b[i] with
     | true =>
      simp (maxDischargeDepth := 16) [zY]
      refine hK _ _ ?_
      refine CW.cond (t := false) (by simp [zT, zF, lk]) ?_
      refine CW.skip (hK5 _ _ ?_)
      refine CW.region ?_
      simp (maxDischargeDepth := 16) [zY, wrap_succ (show i ≤ 1000000000000 by omega)]
      exact hR2 _ _ _ ⟨(i + 1, _), _, _, rfl, by simp [sub, lk], rfl, ⟨hlt, hnx (eqb_iff.1 hq)⟩, by show a.length - (i + 1) < a.length - i; omega⟩
     | false =>
      simp (maxDischargeDepth := 16) [zY]
      refine hK _ _ ?_
      refine CW.cond (t := true) (by simp [zT, zF, lk]) ?_
      refine CW.seqK fun K hK => CW.region ?_
      simp (maxDischargeDepth := 16) [zY]
      refine hK _ _ ?_; clear hK K
      refine CW.ret (hR2 _ _ _ (hR _ _ _ (hR0 _ _ _ ⟨.lit (.bool false), by simp [zA, omap, zB, zF, lk], ?_⟩)))
      rw [eqb_ne (hny (eqb_no hq))]; exact done rfl rfl
   · simp (maxDischargeDepth := 16) [zY, Nat.not_lt.2 hge]
     refine hK4 _ _ ?_
     refine CW.seqK fun K3 hK3 => ?_
     refine CW.cond (t := false) (by simp [zT, zF, lk]) ?_
     refine CW.exit (hR2 _ _ _ (hR _ _ _ ?_))
     simp only [outOf, if_true, andThen]
     refine hK _ _ ?_
     refine CW.seqK fun K hK => CW.region ?_
     simp (maxDischargeDepth := 16) [zY]
     refine hK _ _ ?_; clear hK K
     refine CW.ret (hR0 _ _ _ ⟨.lit (.bool true), by simp [zA, omap, zB, zF, lk], ?_⟩)
     rw [List.take_of_length_le hge, List.take_of_length_le (by omega)] at hp
     rw [hp, eqb_self]; exact done rfl rfl
 · have hab' : ¬ (a.length : Int) = b.length := by omega
   refine CW.seqK fun K hK => CW.region ?_
   simp (maxDischargeDepth := 16) [zY, hab']
   refine hK _ _ ?_; clear hK K
   refine CW.cond (t := true) (by simp [zT, zF, lk, hab']) ?_
   refine CW.seqK fun K hK => CW.region ?_
   simp (maxDischargeDepth := 16) [zY]
   refine hK _ _ ?_; clear hK K
   refine CW.ret (hR0 _ _ _ ⟨.lit (.bool false), by simp [zA, omap, zB, zF, lk], ?_⟩)
   rw [eqb_ne (fun h => hab (by subst h; rfl))]; exact done0 rfl rfl
theorem SameGRhs_w (hc : S.code = codeP Tryz.prog) (hm : S.ms 42 = []) (h1 : S.sp 76 = some (sameG (fun l : List Rhs => .sl (rhsR l) .no) 43 rhsW 3)) : SmOk Tryz.prog S N 42 (fun p : (List Rhs) × (List Rhs) => [(fun l : List Rhs => .sl (rhsR l) .no) p.1, (fun l : List Rhs => .sl (rhsR l) .no) p.2, .fn (.func 43) [] []]) (fun p : (List Rhs) × (List Rhs) => .lit (.bool (eqb p.1 p.2))) (fun p : (List Rhs) × (List Rhs) => rhsW p.1 ≤ 1000000000000 ∧ rhsW p.2 ≤ 1000000000000) (fun p : (List Rhs) × (List Rhs) => rhsW p.1 + rhsW p.2) 4 := by
 rintro ⟨a, b⟩ σ ⟨hl, hl2⟩ hN
 dsimp only at hl hl2 hN ⊢
 refine JC.startF (fn := Tryz.f42) (codeOf hc Tryz.func42 rfl (by kernel_rfl)) rfl hm rfl (zL rfl) fun tm => ?_
 refine CW.hide fun R0 hR0 => ?_
 refine CW.seqK fun K hK => CW.region ?_
 simp (maxDischargeDepth := 16) [zY]
 refine hK _ _ ?_; clear hK K
 refine CW.seqK fun K hK => CW.region ?_
 simp (maxDischargeDepth := 16) [zY]
 refine call_sameG a b h1 (sl_inj rhsR_inj) (by simp only [nrmR, AV.nrm, rhsR_nrm]) hl hl2 (by omega) fun _ => ?_
 simp (maxDischargeDepth := 16) [zY]
 refine hK _ _ (CW.ret (hR0 _ _ _ ⟨.lit (.bool (eqb a b)), by simp [zA, omap, zB, zF, lk], done0 rfl rfl⟩))
theorem EqFArm_w (hc : S.code = codeP Tryz.prog) (hm : S.ms 80 = []) (h1 : S.sp 46 = some (sameW (fun t : Arm => .agg t.cs) Arm.w 2)) : SmOk Tryz.prog S N 80 (fun p : (List Arm) × (List Arm) => [(fun l : List Arm => .sl (armR l) .no) p.1, (fun l : List Arm => .sl (armR l) .no) p.2, .fn (.func 46) [] []]) (fun p : (List Arm) × (List Arm) => .lit (.bool (eqb p.1 p.2))) (fun p : (List Arm) × (List Arm) => armW p.1 ≤ 1000000000000 ∧ armW p.2 ≤ 1000000000000) (fun p : (List Arm) × (List Arm) => armW p.1 + armW p.2) 3 := by
 rintro ⟨a, b⟩ σ ⟨hl, hl2⟩ hN
 dsimp only at hl hl2 hN ⊢
 refine JC.startF (fn := Tryz.f80) (codeOf hc Tryz.func80 rfl (by kernel_rfl)) rfl hm rfl (zL rfl) fun tm => ?_
 refine CW.hide fun R0 hR0 => ?_
 have hlen := armW_len a
 refine CW.seqK fun K hK => CW.region ?_
 simp (maxDischargeDepth := 16) [zY]
 refine hK _ _ ?_; clear hK K
 refine CW.seqK fun K hK => ?_
 rcases Classical.em (a.length = b.length) with hab | hab
 · refine CW.seqK fun K hK => CW.region ?_
   simp (maxDischargeDepth := 16) [zY, hab]
   refine hK _ _ ?_; clear hK K
   refine CW.cond (t := false) (by simp [zT, zF, lk]) ?_
   refine CW.skip (hK _ _ ?_); clear hK K
   refine CW.seqK fun K hK => ?_
   refine CW.seqK fun K hK => CW.region ?_
   simp (maxDischargeDepth := 16) [zY]
   refine hK _ _ ?_; clear hK K
   refine CW.block (CW.hide fun R hR => ?_)
   refine CW.loopF (fun p : Nat × List AObj => [(0, .sl (armR a) .no), (1, .sl (armR b) .no), (2, .fn (.func 46) [] []), (15, .sl (armR a) .no), (16, intV a.length), (17, intV p.1)]) (fun p => σ ++ p.2) (fun p => p.1 ≤ a.length ∧ a.take p.1 = b.take p.1) (fun p => a.length - p.1) (0, []) (by simp [sub, lk]) (by simp) (by simp) ?_
   rintro ⟨i, g⟩ tm ⟨hi, hp⟩
   dsimp only at hi hp ⊢
   refine CW.hide fun R2 hR2 => CW.seqK fun K4 hK4 => CW.region ?_
   rcases Nat.lt_or_ge i a.length with hlt | hge
   · simp (maxDischargeDepth := 16) [zY, hlt]
     refine hK4 _ _ ?_
     refine CW.seqK fun K3 hK3 => ?_
     refine CW.cond (t := true) (by simp [zT, zF, lk]) ?_
     refine CW.skip (hK3 _ _ ?_)
     refine CW.seqK fun K5 hK5 => CW.block ?_
     have hlb : i < b.length := by omega
     have ha := armR_get hlt
     have hb := armR_get hlb
     have hga := armW_get hlt
     have hgb := armW_get hlb
     have hnx : a[i] = b[i] → a.take (i + 1) = b.take (i + 1) := fun e => by rw [List.take_add_one, List.take_add_one, hp, List.getElem?_eq_getElem hlt, List.getElem?_eq_getElem hlb, e]
     have hny : a[i] ≠ b[i] → a ≠ b := fun e h => e (by subst h; rfl)
     refine CW.seqK fun K hK => CW.region ?_
     simp (maxDischargeDepth := 16) [zY, ha, Arm.len, Arm.tk, Arm.put]
     refine hK _ _ ?_; clear hK K
     refine CW.seqK fun K hK => CW.region ?_
     simp (maxDischargeDepth := 16) [zY, hb, Arm.len, Arm.tk, Arm.put]
     refine hK _ _ ?_; clear hK K
     refine CW.seqK fun K hK => CW.region ?_
     simp (maxDischargeDepth := 16) [zY, Arm.len, Arm.tk]
     refine call_sameW a[i] b[i] h1 (agg_inj Arm.inj) (by simp only [nrmR, AV.nrm, Arm.nrm]) (by omega) (by omega) (by omega) fun _ => ?_
     cases hq : eqb a[i] b[i] with
     | true =>
      simp (maxDischargeDepth := 16) [zY]
      refine hK _ _ ?_
      refine CW.cond (t := false) (by simp [zT, zF, lk]) ?_
      refine CW.skip (hK5 _ _ ?_)
      refine CW.region ?_
      simp (maxDischargeDepth := 16) [zY, wrap_succ (show i ≤ 1000000000000 by omega)]
      exact hR2 _ _ _ ⟨(i + 1, _), _, _, rfl, by simp [sub, lk], rfl, ⟨hlt, hnx (eqb_iff.1 hq)⟩, by show a.length - (i + 1) < a.length - i; omega⟩
     | false =>
      simp (maxDischargeDepth := 16) [zY]
      refine hK _ _ ?_
      refine CW.cond (t := true) (by simp [zT, zF, lk]) ?_
      refine CW.seqK fun K hK => CW.region ?_
      simp (maxDischargeDepth := 16) [zY]
      refine hK _ _ ?_; clear hK K
      refine CW.ret (hR2 _ _ _ (hR _ _ _ (hR0 _ _ _ ⟨.lit (.bool false), by simp [zA, omap, zB, zF, lk], ?_⟩)))
      rw [eqb_ne (hny (eqb_no hq))]; exact done rfl rfl
   · simp (maxDischargeDepth := 16) [zY, Nat.not_lt.2 hge]
     refine hK4 _ _ ?_
     refine CW.seqK fun K3 hK3 => ?_
     refine CW.cond (t := false) (by simp [zT, zF, lk]) ?_
     refine CW.exit (hR2 _ _ _ (hR _ _ _ ?_))
     simp only [outOf, if_true, andThen]
     refine hK _ _ ?_
     refine CW.seqK fun K hK => CW.region ?_
     simp (maxDischargeDepth := 16) [zY]
     refine hK _ _ ?_; clear hK K
     refine CW.ret (hR0 _ _ _ ⟨.lit (.bool true), by simp [zA, omap, zB, zF, lk], ?_⟩)
     rw [List.take_of_length_le hge, List.take_of_length_le (by omega)] at hp
     rw [hp, eqb_self]; exact done rfl rfl
 · have hab' : ¬ (a.length : Int) = b.length := by omega
   refine CW.seqK fun K hK => CW.region ?_
   simp (maxDischargeDepth := 16) [zY, hab']
   refine hK _ _ ?_; clear hK K
   refine CW.cond (t := true) (by simp [zT, zF, lk, hab']) ?_
   refine CW.seqK fun K hK => CW.region ?_
   simp (maxDischargeDepth := 16) [zY]
   refine hK _ _ ?_; clear hK K
   refine CW.ret (hR0 _ _ _ ⟨.lit (.bool false), by simp [zA, omap, zB, zF, lk], ?_⟩)
   rw [eqb_ne (fun h => hab (by subst h; rfl))]; exact done0 rfl rfl
theorem SameGArm_w (hc : S.code = codeP Tryz.prog) (hm : S.ms 45 = []) (h1 : S.sp 80 = some (sameG (fun l : List Arm => .sl (armR l) .no) 46 armW 3)) : SmOk Tryz.prog S N 45 (fun p : (List Arm) × (List Arm) => [(fun l : List Arm => .sl (armR l) .no) p.1, (fun l : List Arm => .sl (armR l) .no) p.2, .fn (.func 46) [] []]) (fun p : (List Arm) × (List Arm) => .lit (.bool (eqb p.1 p.2))) (fun p : (List Arm) × (List Arm) => armW p.1 ≤ 1000000000000 ∧ armW p.2 ≤ 1000000000000) (fun p : (List Arm) × (List Arm) => armW p.1 + armW p.2) 4 := by
 rintro ⟨a, b⟩ σ ⟨hl, hl2⟩ hN
 dsimp only at hl hl2 hN ⊢
 refine JC.startF (fn := Tryz.f45) (codeOf hc Tryz.func45 rfl (by kernel_rfl)) rfl hm rfl (zL rfl) fun tm => ?_
 refine CW.hide fun R0 hR0 => ?_
 refine CW.seqK fun K hK => CW.region ?_
 simp (maxDischargeDepth := 16) [zY]
 refine hK _ _ ?_; clear hK K
 refine CW.seqK fun K hK => CW.region ?_
 simp (maxDischargeDepth := 16) [zY]
 refine call_sameG a b h1 (sl_inj armR_inj) (by simp only [nrmR, AV.nrm, armR_nrm]) hl hl2 (by omega) fun _ => ?_
 simp (maxDischargeDepth := 16) [zY]
 refine hK _ _ (CW.ret (hR0 _ _ _ ⟨.lit (.bool (eqb a b)), by simp [zA, omap, zB, zF, lk], done0 rfl rfl⟩))
theorem EqFExp_w (hc : S.code = codeP Tryz.prog) (hm : S.ms 79 = []) (h1 : S.sp 11 = some (sameW (fun t : Exp => .agg t.cs) Exp.w 2)) : SmOk Tryz.prog S N 79 (fun p : (List Exp) × (List Exp) => [(fun l : List Exp => .sl (expR l) .no) p.1, (fun l : List Exp => .sl (expR l) .no) p.2, .fn (.func 11) [] []]) (fun p : (List Exp) × (List Exp) => .lit (.bool (eqb p.1 p.2))) (fun p : (List Exp) × (List Exp) => expW p.1 ≤ 1000000000000 ∧ expW p.2 ≤ 1000000000000) (fun p : (List Exp) × (List Exp) => expW p.1 + expW p.2) 3 := by
 rintro ⟨a, b⟩ σ ⟨hl, hl2⟩ hN
 dsimp only at hl hl2 hN ⊢
 refine JC.startF (fn := Tryz.f79) (codeOf hc Tryz.func79 rfl (by kernel_rfl)) rfl hm rfl (zL rfl) fun tm => ?_
 refine CW.hide fun R0 hR0 => ?_
 have hlen := expW_len a
 refine CW.seqK fun K hK => CW.region ?_
 simp (maxDischargeDepth := 16) [zY]
 refine hK _ _ ?_; clear hK K
 refine CW.seqK fun K hK => ?_
 rcases Classical.em (a.length = b.length) with hab | hab
 · refine CW.seqK fun K hK => CW.region ?_
   simp (maxDischargeDepth := 16) [zY, hab]
   refine hK _ _ ?_; clear hK K
   refine CW.cond (t := false) (by simp [zT, zF, lk]) ?_
   refine CW.skip (hK _ _ ?_); clear hK K
   refine CW.seqK fun K hK => ?_
   refine CW.seqK fun K hK => CW.region ?_
   simp (maxDischargeDepth := 16) [zY]
   refine hK _ _ ?_; clear hK K
   refine CW.block (CW.hide fun R hR => ?_)
   refine CW.loopF (fun p : Nat × List AObj => [(0, .sl (expR a) .no), (1, .sl (expR b) .no), (2, .fn (.func 11) [] []), (15, .sl (expR a) .no), (16, intV a.length), (17, intV p.1)]) (fun p => σ ++ p.2) (fun p => p.1 ≤ a.length ∧ a.take p.1 = b.take p.1) (fun p => a.length - p.1) (0, []) (by simp [sub, lk]) (by simp) (by simp) ?_
   rintro ⟨i, g⟩ tm ⟨hi, hp⟩
   dsimp only at hi hp ⊢
   refine CW.hide fun R2 hR2 => CW.seqK fun K4 hK4 => CW.region ?_
   rcases Nat.lt_or_ge i a.length with hlt | hge
   · simp (maxDischargeDepth := 16) [zY, hlt]
     refine hK4 _ _ ?_
     refine CW.seqK fun K3 hK3 => ?_
     refine CW.cond (t := true) (by simp [zT, zF, lk]) ?_
     refine CW.skip (hK3 _ _ ?_)
     refine CW.seqK fun K5 hK5 => CW.block ?_
     have hlb : i < b.length := by omega
     have ha := expR_get hlt
     have hb := expR_get hlb
     have hga := expW_get hlt
     have hgb := expW_get hlb
     have hnx : a[i] = b[i] → a.take (i + 1) = b.take (i + 1) := fun e => by rw [List.take_add_one, List.take_add_one, hp, List.getElem?_eq_getElem hlt, List.getElem?_eq_getElem hlb, e]
     have hny : a[i] ≠ b[i] → a ≠ b := fun e h => e (by subst h; rfl)
     refine CW.seqK fun K hK => CW.region ?_
     simp (maxDischargeDepth := 16) [zY, ha, Exp.len, Exp.tk, Exp.put]
     refine hK _ _ ?_; clear hK K
     refine CW.seqK fun K hK => CW.region ?_
     simp (maxDischargeDepth := 16) [zY, hb, Exp.len, Exp.tk, Exp.put]
     refine hK _ _ ?_; clear hK K
     refine CW.seqK fun K hK => CW.region ?_
     simp (maxDischargeDepth := 16) [zY, Exp.len, Exp.tk]
     refine call_sameW a[i] b[i] h1 (agg_inj Exp.inj) (by simp only [nrmR, AV.nrm, Exp.nrm]) (by omega) (by omega) (by omega) fun _ => ?_
     cases hq : eqb a[i] b[i] with
     | true =>
      simp (maxDischargeDepth := 16) [zY]
      refine hK _ _ ?_
      refine CW.cond (t := false) (by simp [zT, zF, lk]) ?_
      refine CW.skip (hK5 _ _ ?_)
      refine CW.region ?_
      simp (maxDischargeDepth := 16) [zY, wrap_succ (show i ≤ 1000000000000 by omega)]
      exact hR2 _ _ _ ⟨(i + 1, _), _, _, rfl, by simp [sub, lk], rfl, ⟨hlt, hnx (eqb_iff.1 hq)⟩, by show a.length - (i + 1) < a.length - i; omega⟩
     | false =>
      simp (maxDischargeDepth := 16) [zY]
      refine hK _ _ ?_
      refine CW.cond (t := true) (by simp [zT, zF, lk]) ?_
      refine CW.seqK fun K hK => CW.region ?_
      simp (maxDischargeDepth := 16) [zY]
      refine hK _ _ ?_; clear hK K
      refine CW.ret (hR2 _ _ _ (hR _ _ _ (hR0 _ _ _ ⟨.lit (.bool false), by simp [zA, omap, zB, zF, lk], ?_⟩)))
      rw [eqb_ne (hny (eqb_no hq))]; exact done rfl rfl
   · simp (maxDischargeDepth := 16) [zY, Nat.not_lt.2 hge]
     refine hK4 _ _ ?_
     refine CW.seqK fun K3 hK3 => ?_
     refine CW.cond (t := false) (by simp [zT, zF, lk]) ?_
     refine CW.exit (hR2 _ _ _ (hR _ _ _ ?_))
     simp only [outOf, if_true, andThen]
     refine hK _ _ ?_
     refine CW.seqK fun K hK => CW.region ?_
     simp (maxDischargeDepth := 16) [zY]
     refine hK _ _ ?_; clear hK K
     refine CW.ret (hR0 _ _ _ ⟨.lit (.bool true), by simp [zA, omap, zB, zF, lk], ?_⟩)
     rw [List.take_of_length_le hge, List.take_of_length_le (by omega)] at hp
     rw [hp, eqb_self]; exact done rfl rfl
 · have hab' : ¬ (a.length : Int) = b.length := by omega
   refine CW.seqK fun K hK => CW.region ?_
   simp (maxDischargeDepth := 16) [zY, hab']
   refine hK _ _ ?_; clear hK K
   refine CW.cond (t := true) (by simp [zT, zF, lk, hab']) ?_
   refine CW.seqK fun K hK => CW.region ?_
   simp (maxDischargeDepth := 16) [zY]
   refine hK _ _ ?_; clear hK K
   refine CW.ret (hR0 _ _ _ ⟨.lit (.bool false), by simp [zA, omap, zB, zF, lk], ?_⟩)
   rw [eqb_ne (fun h => hab (by subst h; rfl))]; exact done0 rfl rfl
theorem SameGExp_w (hc : S.code = codeP Tryz.prog) (hm : S.ms 44 = []) (h1 : S.sp 79 = some (sameG (fun l : List Exp => .sl (expR l) .no) 11 expW 3)) : SmOk Tryz.prog S N 44 (fun p : (List Exp) × (List Exp) => [(fun l : List Exp => .sl (expR l) .no) p.1, (fun l : List Exp => .sl (expR l) .no) p.2, .fn (.func 11) [] []]) (fun p : (List Exp) × (List Exp) => .lit (.bool (eqb p.1 p.2))) (fun p : (List Exp) × (List Exp) => expW p.1 ≤ 1000000000000 ∧ expW p.2 ≤ 1000000000000) (fun p : (List Exp) × (List Exp) => expW p.1 + expW p.2) 4 := by
 rintro ⟨a, b⟩ σ ⟨hl, hl2⟩ hN
 dsimp only at hl hl2 hN ⊢
 refine JC.startF (fn := Tryz.f44) (codeOf hc Tryz.func44 rfl (by kernel_rfl)) rfl hm rfl (zL rfl) fun tm => ?_
 refine CW.hide fun R0 hR0 => ?_
 refine CW.seqK fun K hK => CW.region ?_
 simp (maxDischargeDepth := 16) [zY]
 refine hK _ _ ?_; clear hK K
 refine CW.seqK fun K hK => CW.region ?_
 simp (maxDischargeDepth := 16) [zY]
 refine call_sameG a b h1 (sl_inj expR_inj) (by simp only [nrmR, AV.nrm, expR_nrm]) hl hl2 (by omega) fun _ => ?_
 simp (maxDischargeDepth := 16) [zY]
 refine hK _ _ (CW.ret (hR0 _ _ _ ⟨.lit (.bool (eqb a b)), by simp [zA, omap, zB, zF, lk], done0 rfl rfl⟩))
theorem tSAtm_w (hc : S.code = codeP Tryz.prog) (hm : S.ms 39 = []) (hE : S.sp 71 = some (sameW (fun l => .sl (limR l) .no) List.length 0)) : SmOk Tryz.prog S N 39 (fun p : (Atm) × (Atm) => [(fun t : Atm => .agg t.cs) p.1, (fun t : Atm => .agg t.cs) p.2]) (fun p : (Atm) × (Atm) => .lit (.bool (eqb p.1 p.2))) (fun p : (Atm) × (Atm) => Atm.w p.1 ≤ 1000000000000 ∧ Atm.w p.2 ≤ 1000000000000) (fun p : (Atm) × (Atm) => Atm.w p.1 + Atm.w p.2) 2 := by
 rintro ⟨a, b⟩ σ ⟨hl, hl2⟩ hN
 dsimp only at hl hl2 hN ⊢
 refine JC.startF (fn := Tryz.f39) (codeOf hc Tryz.func39 rfl (by kernel_rfl)) rfl hm rfl (zL rfl) fun tm => ?_
 refine CW.hide fun R0 hR0 => ?_
 obtain ⟨k, nm, ng, dg, tr⟩ := a; obtain ⟨wk, wnm, wng, wdg, wtr⟩ := b
 simp only [Atm.w] at hl hl2 hN
 simp only [Atm.cs]
 refine CW.seqK fun K hK => CW.region ?_
 simp (maxDischargeDepth := 16) [zY]
 refine hK _ _ ?_; clear hK K
 refine CW.seqK fun K hK => CW.region ?_
 rcases Classical.em (k = wk) with e1 | e1
 · subst e1
   rcases Classical.em (nm = wnm) with e2 | e2
   · subst e2
     rcases Classical.em (tr = wtr) with e3 | e3
     · subst e3
       rcases Classical.em (ng = wng) with e4 | e4
       · subst e4
         simp (maxDischargeDepth := 16) [zY]
         refine call_sameW (dg) (wdg) hE (sl_inj limR_inj) (by simp only [nrmR, AV.nrm, limR_nrm]) (by omega) (by omega) (by omega) fun _ => ?_
         cases hq5 : eqb (dg) (wdg) with
         | true =>
          simp (maxDischargeDepth := 16) [zY]
          refine hK _ _ ?_
          refine CW.ret (hR0 _ _ _ ⟨.lit (.bool true), by simp [zA, omap, zB, zF, lk], ?_⟩)
          cases eqb_iff.1 hq5
          rw [eqb_self]; exact done rfl rfl
         | false =>
          simp (maxDischargeDepth := 16) [zY]
          refine hK _ _ ?_
          refine CW.ret (hR0 _ _ _ ⟨.lit (.bool false), by simp [zA, omap, zB, zF, lk], ?_⟩)
          rw [eqb_ne (fun h => by cases h; exact eqb_no hq5 rfl)]; exact done rfl rfl
       · simp (maxDischargeDepth := 16) [zY, e4, beq_eq_false_iff_ne.2 e4]
         refine hK _ _ ?_
         refine CW.ret (hR0 _ _ _ ⟨.lit (.bool false), by simp [zA, omap, zB, zF, lk], ?_⟩)
         rw [eqb_ne (fun h => by cases h; exact e4 rfl)]; exact done rfl rfl
     · simp (maxDischargeDepth := 16) [zY, e3, beq_eq_false_iff_ne.2 e3]
       refine hK _ _ ?_
       refine CW.ret (hR0 _ _ _ ⟨.lit (.bool false), by simp [zA, omap, zB, zF, lk], ?_⟩)
       rw [eqb_ne (fun h => by cases h; exact e3 rfl)]; exact done rfl rfl
   · simp (maxDischargeDepth := 16) [zY, e2, beqL, eqb_ne e2]
     refine hK _ _ ?_
     refine CW.ret (hR0 _ _ _ ⟨.lit (.bool false), by simp [zA, omap, zB, zF, lk], ?_⟩)
     rw [eqb_ne (fun h => by cases h; exact e2 rfl)]; exact done rfl rfl
 · simp (maxDischargeDepth := 16) [zY, e1, beq_eq_false_iff_ne.2 e1]
   refine hK _ _ ?_
   refine CW.ret (hR0 _ _ _ ⟨.lit (.bool false), by simp [zA, omap, zB, zF, lk], ?_⟩)
   rw [eqb_ne (fun h => by cases h; exact e1 rfl)]; exact done rfl rfl
theorem tSPrm_w (hc : S.code = codeP Tryz.prog) (hm : S.ms 75 = []) (hS : S.sp 41 = some (sameW (fun t : Ty => .agg t.cs) Ty.w 2)) : SmOk Tryz.prog S N 75 (fun p : (Prm) × (Prm) => [(fun t : Prm => .agg t.cs) p.1, (fun t : Prm => .agg t.cs) p.2]) (fun p : (Prm) × (Prm) => .lit (.bool (eqb p.1 p.2))) (fun p : (Prm) × (Prm) => Prm.w p.1 ≤ 1000000000000 ∧ Prm.w p.2 ≤ 1000000000000) (fun p : (Prm) × (Prm) => Prm.w p.1 + Prm.w p.2) 2 := by
 rintro ⟨a, b⟩ σ ⟨hl, hl2⟩ hN
 dsimp only at hl hl2 hN ⊢
 refine JC.startF (fn := Tryz.f75) (codeOf hc Tryz.func75 rfl (by kernel_rfl)) rfl hm rfl (zL rfl) fun tm => ?_
 refine CW.hide fun R0 hR0 => ?_
 obtain ⟨nm, ⟨tyfn, tyst, ⟨tyrfk, tyrfnm, tyrfng, tyrfdg, tyrfks⟩, typs, tyrs⟩⟩ := a; obtain ⟨wnm, ⟨wtyfn, wtyst, ⟨wtyrfk, wtyrfnm, wtyrfng, wtyrfdg, wtyrfks⟩, wtyps, wtyrs⟩⟩ := b
 simp only [Prm.w, Ty.w, Trm.w] at hl hl2 hN
 simp only [Prm.cs]
 refine CW.seqK fun K hK => CW.region ?_
 simp (maxDischargeDepth := 16) [zY]
 refine hK _ _ ?_; clear hK K
 refine CW.seqK fun K hK => CW.region ?_
 rcases Classical.em (nm = wnm) with e1 | e1
 · subst e1
   simp (maxDischargeDepth := 16) [zY]
   refine call_sameW (Ty.mk tyfn tyst (Trm.mk tyrfk tyrfnm tyrfng tyrfdg tyrfks) typs tyrs) (Ty.mk wtyfn wtyst (Trm.mk wtyrfk wtyrfnm wtyrfng wtyrfdg wtyrfks) wtyps wtyrs) hS (agg_inj Ty.inj) (by simp only [nrmR, AV.nrm, limR_nrm, trmR_nrm, prmR_nrm, tyR_nrm, Ty.cs]) (by simp only [Trm.w, Ty.w, Atm.w]; omega) (by simp only [Trm.w, Ty.w, Atm.w]; omega) (by simp only [Trm.w, Ty.w, Atm.w]; omega) fun _ => ?_
   cases hq2 : eqb (Ty.mk tyfn tyst (Trm.mk tyrfk tyrfnm tyrfng tyrfdg tyrfks) typs tyrs) (Ty.mk wtyfn wtyst (Trm.mk wtyrfk wtyrfnm wtyrfng wtyrfdg wtyrfks) wtyps wtyrs) with
   | true =>
    simp (maxDischargeDepth := 16) [zY]
    refine hK _ _ ?_
    refine CW.ret (hR0 _ _ _ ⟨.lit (.bool true), by simp [zA, omap, zB, zF, lk], ?_⟩)
    cases eqb_iff.1 hq2
    rw [eqb_self]; exact done rfl rfl
   | false =>
    simp (maxDischargeDepth := 16) [zY]
    refine hK _ _ ?_
    refine CW.ret (hR0 _ _ _ ⟨.lit (.bool false), by simp [zA, omap, zB, zF, lk], ?_⟩)
    rw [eqb_ne (fun h => by cases h; exact eqb_no hq2 rfl)]; exact done rfl rfl
 · simp (maxDischargeDepth := 16) [zY, e1, beqL, eqb_ne e1]
   refine hK _ _ ?_
   refine CW.ret (hR0 _ _ _ ⟨.lit (.bool false), by simp [zA, omap, zB, zF, lk], ?_⟩)
   rw [eqb_ne (fun h => by cases h; exact e1 rfl)]; exact done rfl rfl
theorem tSTy_w (hc : S.code = codeP Tryz.prog) (hm : S.ms 41 = []) (hS : S.sp 73 = some (sameW (fun t : Trm => .agg t.cs) Trm.w 2)) (h2 : S.sp 74 = some (sameG (fun l : List Prm => .sl (prmR l) .no) 75 prmW 4)) (h3 : S.sp 40 = some (sameG (fun l : List Ty => .sl (tyR l) .no) 41 tyW 4)) : SmOk Tryz.prog S N 41 (fun p : (Ty) × (Ty) => [(fun t : Ty => .agg t.cs) p.1, (fun t : Ty => .agg t.cs) p.2]) (fun p : (Ty) × (Ty) => .lit (.bool (eqb p.1 p.2))) (fun p : (Ty) × (Ty) => Ty.w p.1 ≤ 1000000000000 ∧ Ty.w p.2 ≤ 1000000000000) (fun p : (Ty) × (Ty) => Ty.w p.1 + Ty.w p.2) 2 := by
 rintro ⟨a, b⟩ σ ⟨hl, hl2⟩ hN
 dsimp only at hl hl2 hN ⊢
 refine JC.startF (fn := Tryz.f41) (codeOf hc Tryz.func41 rfl (by kernel_rfl)) rfl hm rfl (zL rfl) fun tm => ?_
 refine CW.hide fun R0 hR0 => ?_
 obtain ⟨fn, st, ⟨rfk, rfnm, rfng, rfdg, rfks⟩, ps, rs⟩ := a; obtain ⟨wfn, wst, ⟨wrfk, wrfnm, wrfng, wrfdg, wrfks⟩, wps, wrs⟩ := b
 simp only [Ty.w, Trm.w] at hl hl2 hN
 simp only [Ty.cs]
 refine CW.seqK fun K hK => CW.region ?_
 simp (maxDischargeDepth := 16) [zY]
 refine hK _ _ ?_; clear hK K
 refine CW.seqK fun K hK => CW.region ?_
 rcases Classical.em (fn = wfn) with e1 | e1
 · subst e1
   rcases Classical.em (st = wst) with e2 | e2
   · subst e2
     simp (maxDischargeDepth := 16) [zY]
     refine call_sameW (Trm.mk rfk rfnm rfng rfdg rfks) (Trm.mk wrfk wrfnm wrfng wrfdg wrfks) hS (agg_inj Trm.inj) (by simp only [nrmR, AV.nrm, limR_nrm, trmR_nrm, Trm.cs]) (by simp only [Trm.w, Ty.w, Atm.w]; omega) (by simp only [Trm.w, Ty.w, Atm.w]; omega) (by simp only [Trm.w, Ty.w, Atm.w]; omega) fun _ => ?_
     cases hq3 : eqb (Trm.mk rfk rfnm rfng rfdg rfks) (Trm.mk wrfk wrfnm wrfng wrfdg wrfks) with
     | true =>
      simp (maxDischargeDepth := 16) [zY]
      refine call_sameG (ps) (wps) h2 (sl_inj prmR_inj) (by simp only [nrmR, AV.nrm, prmR_nrm]) (by omega) (by omega) (by omega) fun _ => ?_
      cases hq4 : eqb (ps) (wps) with
      | true =>
       simp (maxDischargeDepth := 16) [zY]
       refine call_sameG (rs) (wrs) h3 (sl_inj tyR_inj) (by simp only [nrmR, AV.nrm, tyR_nrm]) (by omega) (by omega) (by omega) fun _ => ?_
       cases hq5 : eqb (rs) (wrs) with
       | true =>
        simp (maxDischargeDepth := 16) [zY]
        refine hK _ _ ?_
        refine CW.ret (hR0 _ _ _ ⟨.lit (.bool true), by simp [zA, omap, zB, zF, lk], ?_⟩)
        cases eqb_iff.1 hq3
        cases eqb_iff.1 hq4
        cases eqb_iff.1 hq5
        rw [eqb_self]; exact done rfl rfl
       | false =>
        simp (maxDischargeDepth := 16) [zY]
        refine hK _ _ ?_
        refine CW.ret (hR0 _ _ _ ⟨.lit (.bool false), by simp [zA, omap, zB, zF, lk], ?_⟩)
        rw [eqb_ne (fun h => by cases h; exact eqb_no hq5 rfl)]; exact done rfl rfl
      | false =>
       simp (maxDischargeDepth := 16) [zY]
       refine hK _ _ ?_
       refine CW.ret (hR0 _ _ _ ⟨.lit (.bool false), by simp [zA, omap, zB, zF, lk], ?_⟩)
       rw [eqb_ne (fun h => by cases h; exact eqb_no hq4 rfl)]; exact done rfl rfl
     | false =>
      simp (maxDischargeDepth := 16) [zY]
      refine hK _ _ ?_
      refine CW.ret (hR0 _ _ _ ⟨.lit (.bool false), by simp [zA, omap, zB, zF, lk], ?_⟩)
      rw [eqb_ne (fun h => by cases h; exact eqb_no hq3 rfl)]; exact done rfl rfl
   · simp (maxDischargeDepth := 16) [zY, e2, beqL, eqb_ne e2]
     refine hK _ _ ?_
     refine CW.ret (hR0 _ _ _ ⟨.lit (.bool false), by simp [zA, omap, zB, zF, lk], ?_⟩)
     rw [eqb_ne (fun h => by cases h; exact e2 rfl)]; exact done rfl rfl
 · simp (maxDischargeDepth := 16) [zY, e1, beq_eq_false_iff_ne.2 e1]
   refine hK _ _ ?_
   refine CW.ret (hR0 _ _ _ ⟨.lit (.bool false), by simp [zA, omap, zB, zF, lk], ?_⟩)
   rw [eqb_ne (fun h => by cases h; exact e1 rfl)]; exact done rfl rfl
theorem tSRhs_w (hc : S.code = codeP Tryz.prog) (hm : S.ms 43 = []) (h1 : S.sp 77 = some (sameG (fun l : List Atm => .sl (atmR l) .no) 39 atmW 4)) (h2 : S.sp 74 = some (sameG (fun l : List Prm => .sl (prmR l) .no) 75 prmW 4)) (h3 : S.sp 40 = some (sameG (fun l : List Ty => .sl (tyR l) .no) 41 tyW 4)) (h4 : S.sp 44 = some (sameG (fun l : List Exp => .sl (expR l) .no) 11 expW 4)) (h5 : S.sp 78 = some (sameG (fun l : List Trm => .sl (trmR l) .no) 73 trmW 4)) : SmOk Tryz.prog S N 43 (fun p : (Rhs) × (Rhs) => [(fun t : Rhs => .agg t.cs) p.1, (fun t : Rhs => .agg t.cs) p.2]) (fun p : (Rhs) × (Rhs) => .lit (.bool (eqb p.1 p.2))) (fun p : (Rhs) × (Rhs) => Rhs.w p.1 ≤ 1000000000000 ∧ Rhs.w p.2 ≤ 1000000000000) (fun p : (Rhs) × (Rhs) => Rhs.w p.1 + Rhs.w p.2) 2 := by
 rintro ⟨a, b⟩ σ ⟨hl, hl2⟩ hN
 dsimp only at hl hl2 hN ⊢
 refine JC.startF (fn := Tryz.f43) (codeOf hc Tryz.func43 rfl (by kernel_rfl)) rfl hm rfl (zL rfl) fun tm => ?_
 refine CW.hide fun R0 hR0 => ?_
 obtain ⟨k, nm, ats, ps, rs, bd, ts⟩ := a; obtain ⟨wk, wnm, wats, wps, wrs, wbd, wts⟩ := b
 simp only [Rhs.w] at hl hl2 hN
 simp only [Rhs.cs]
 refine CW.seqK fun K hK => CW.region ?_
 simp (maxDischargeDepth := 16) [zY]
 refine hK _ _ ?_; clear hK K
 refine CW.seqK fun K hK => CW.region ?_
 rcases Classical.em (k = wk) with e1 | e1
 · subst e1
   rcases Classical.em (nm = wnm) with e2 | e2
   · subst e2
     simp (maxDischargeDepth := 16) [zY]
     refine call_sameG (ats) (wats) h1 (sl_inj atmR_inj) (by simp only [nrmR, AV.nrm, atmR_nrm]) (by omega) (by omega) (by omega) fun _ => ?_
     cases hq3 : eqb (ats) (wats) with
     | true =>
      simp (maxDischargeDepth := 16) [zY]
      refine call_sameG (ps) (wps) h2 (sl_inj prmR_inj) (by simp only [nrmR, AV.nrm, prmR_nrm]) (by omega) (by omega) (by omega) fun _ => ?_
      cases hq4 : eqb (ps) (wps) with
      | true =>
       simp (maxDischargeDepth := 16) [zY]
       refine call_sameG (rs) (wrs) h3 (sl_inj tyR_inj) (by simp only [nrmR, AV.nrm, tyR_nrm]) (by omega) (by omega) (by omega) fun _ => ?_
       cases hq5 : eqb (rs) (wrs) with
       | true =>
        simp (maxDischargeDepth := 16) [zY]
        refine call_sameG (bd) (wbd) h4 (sl_inj expR_inj) (by simp only [nrmR, AV.nrm, expR_nrm]) (by omega) (by omega) (by omega) fun _ => ?_
        cases hq6 : eqb (bd) (wbd) with
        | true =>
         simp (maxDischargeDepth := 16) [zY]
         refine call_sameG (ts) (wts) h5 (sl_inj trmR_inj) (by simp only [nrmR, AV.nrm, trmR_nrm]) (by omega) (by omega) (by omega) fun _ => ?_
         cases hq7 : eqb (ts) (wts) with
         | true =>
          simp (maxDischargeDepth := 16) [zY]
          refine hK _ _ ?_
          refine CW.ret (hR0 _ _ _ ⟨.lit (.bool true), by simp [zA, omap, zB, zF, lk], ?_⟩)
          cases eqb_iff.1 hq3
          cases eqb_iff.1 hq4
          cases eqb_iff.1 hq5
          cases eqb_iff.1 hq6
          cases eqb_iff.1 hq7
          rw [eqb_self]; exact done rfl rfl
         | false =>
          simp (maxDischargeDepth := 16) [zY]
          refine hK _ _ ?_
          refine CW.ret (hR0 _ _ _ ⟨.lit (.bool false), by simp [zA, omap, zB, zF, lk], ?_⟩)
          rw [eqb_ne (fun h => by cases h; exact eqb_no hq7 rfl)]; exact done rfl rfl
        | false =>
         simp (maxDischargeDepth := 16) [zY]
         refine hK _ _ ?_
         refine CW.ret (hR0 _ _ _ ⟨.lit (.bool false), by simp [zA, omap, zB, zF, lk], ?_⟩)
         rw [eqb_ne (fun h => by cases h; exact eqb_no hq6 rfl)]; exact done rfl rfl
       | false =>
        simp (maxDischargeDepth := 16) [zY]
        refine hK _ _ ?_
        refine CW.ret (hR0 _ _ _ ⟨.lit (.bool false), by simp [zA, omap, zB, zF, lk], ?_⟩)
        rw [eqb_ne (fun h => by cases h; exact eqb_no hq5 rfl)]; exact done rfl rfl
      | false =>
       simp (maxDischargeDepth := 16) [zY]
       refine hK _ _ ?_
       refine CW.ret (hR0 _ _ _ ⟨.lit (.bool false), by simp [zA, omap, zB, zF, lk], ?_⟩)
       rw [eqb_ne (fun h => by cases h; exact eqb_no hq4 rfl)]; exact done rfl rfl
     | false =>
      simp (maxDischargeDepth := 16) [zY]
      refine hK _ _ ?_
      refine CW.ret (hR0 _ _ _ ⟨.lit (.bool false), by simp [zA, omap, zB, zF, lk], ?_⟩)
      rw [eqb_ne (fun h => by cases h; exact eqb_no hq3 rfl)]; exact done rfl rfl
   · simp (maxDischargeDepth := 16) [zY, e2, beqL, eqb_ne e2]
     refine hK _ _ ?_
     refine CW.ret (hR0 _ _ _ ⟨.lit (.bool false), by simp [zA, omap, zB, zF, lk], ?_⟩)
     rw [eqb_ne (fun h => by cases h; exact e2 rfl)]; exact done rfl rfl
 · simp (maxDischargeDepth := 16) [zY, e1, beq_eq_false_iff_ne.2 e1]
   refine hK _ _ ?_
   refine CW.ret (hR0 _ _ _ ⟨.lit (.bool false), by simp [zA, omap, zB, zF, lk], ?_⟩)
   rw [eqb_ne (fun h => by cases h; exact e1 rfl)]; exact done rfl rfl
theorem tSArm_w (hc : S.code = codeP Tryz.prog) (hm : S.ms 46 = []) (hE : S.sp 81 = some (sameW (fun l => .sl (txtR l) .no) txtW 0)) (h1 : S.sp 44 = some (sameG (fun l : List Exp => .sl (expR l) .no) 11 expW 4)) : SmOk Tryz.prog S N 46 (fun p : (Arm) × (Arm) => [(fun t : Arm => .agg t.cs) p.1, (fun t : Arm => .agg t.cs) p.2]) (fun p : (Arm) × (Arm) => .lit (.bool (eqb p.1 p.2))) (fun p : (Arm) × (Arm) => Arm.w p.1 ≤ 1000000000000 ∧ Arm.w p.2 ≤ 1000000000000) (fun p : (Arm) × (Arm) => Arm.w p.1 + Arm.w p.2) 2 := by
 rintro ⟨a, b⟩ σ ⟨hl, hl2⟩ hN
 dsimp only at hl hl2 hN ⊢
 refine JC.startF (fn := Tryz.f46) (codeOf hc Tryz.func46 rfl (by kernel_rfl)) rfl hm rfl (zL rfl) fun tm => ?_
 refine CW.hide fun R0 hR0 => ?_
 obtain ⟨cn, ns, bd⟩ := a; obtain ⟨wcn, wns, wbd⟩ := b
 simp only [Arm.w] at hl hl2 hN
 simp only [Arm.cs]
 refine CW.seqK fun K hK => CW.region ?_
 simp (maxDischargeDepth := 16) [zY]
 refine hK _ _ ?_; clear hK K
 refine CW.seqK fun K hK => CW.region ?_
 rcases Classical.em (cn = wcn) with e1 | e1
 · subst e1
   simp (maxDischargeDepth := 16) [zY]
   refine call_sameW (ns) (wns) hE (sl_inj txtR_inj) (by simp only [nrmR, AV.nrm, txtR_nrm]) (by omega) (by omega) (by omega) fun _ => ?_
   cases hq2 : eqb (ns) (wns) with
   | true =>
    simp (maxDischargeDepth := 16) [zY]
    refine call_sameG (bd) (wbd) h1 (sl_inj expR_inj) (by simp only [nrmR, AV.nrm, expR_nrm]) (by omega) (by omega) (by omega) fun _ => ?_
    cases hq3 : eqb (bd) (wbd) with
    | true =>
     simp (maxDischargeDepth := 16) [zY]
     refine hK _ _ ?_
     refine CW.ret (hR0 _ _ _ ⟨.lit (.bool true), by simp [zA, omap, zB, zF, lk], ?_⟩)
     cases eqb_iff.1 hq2
     cases eqb_iff.1 hq3
     rw [eqb_self]; exact done rfl rfl
    | false =>
     simp (maxDischargeDepth := 16) [zY]
     refine hK _ _ ?_
     refine CW.ret (hR0 _ _ _ ⟨.lit (.bool false), by simp [zA, omap, zB, zF, lk], ?_⟩)
     rw [eqb_ne (fun h => by cases h; exact eqb_no hq3 rfl)]; exact done rfl rfl
   | false =>
    simp (maxDischargeDepth := 16) [zY]
    refine hK _ _ ?_
    refine CW.ret (hR0 _ _ _ ⟨.lit (.bool false), by simp [zA, omap, zB, zF, lk], ?_⟩)
    rw [eqb_ne (fun h => by cases h; exact eqb_no hq2 rfl)]; exact done rfl rfl
 · simp (maxDischargeDepth := 16) [zY, e1, beqL, eqb_ne e1]
   refine hK _ _ ?_
   refine CW.ret (hR0 _ _ _ ⟨.lit (.bool false), by simp [zA, omap, zB, zF, lk], ?_⟩)
   rw [eqb_ne (fun h => by cases h; exact e1 rfl)]; exact done rfl rfl
theorem tSExp_w (hc : S.code = codeP Tryz.prog) (hm : S.ms 11 = []) (h1 : S.sp 40 = some (sameG (fun l : List Ty => .sl (tyR l) .no) 41 tyW 4)) (h2 : S.sp 42 = some (sameG (fun l : List Rhs => .sl (rhsR l) .no) 43 rhsW 4)) (hS : S.sp 39 = some (sameW (fun t : Atm => .agg t.cs) Atm.w 2)) (h4 : S.sp 45 = some (sameG (fun l : List Arm => .sl (armR l) .no) 46 armW 4)) (h5 : S.sp 44 = some (sameG (fun l : List Exp => .sl (expR l) .no) 11 expW 4)) : SmOk Tryz.prog S N 11 (fun p : (Exp) × (Exp) => [(fun t : Exp => .agg t.cs) p.1, (fun t : Exp => .agg t.cs) p.2]) (fun p : (Exp) × (Exp) => .lit (.bool (eqb p.1 p.2))) (fun p : (Exp) × (Exp) => Exp.w p.1 ≤ 1000000000000 ∧ Exp.w p.2 ≤ 1000000000000) (fun p : (Exp) × (Exp) => Exp.w p.1 + Exp.w p.2) 2 := by
 rintro ⟨a, b⟩ σ ⟨hl, hl2⟩ hN
 dsimp only at hl hl2 hN ⊢
 refine JC.startF (fn := Tryz.f11) (codeOf hc Tryz.func11 rfl (by kernel_rfl)) rfl hm rfl (zL rfl) fun tm => ?_
 refine CW.hide fun R0 hR0 => ?_
 obtain ⟨k, nm, ty, rh, ⟨amk, amnm, amng, amdg, amtr⟩, ar, bd⟩ := a; obtain ⟨wk, wnm, wty, wrh, ⟨wamk, wamnm, wamng, wamdg, wamtr⟩, war, wbd⟩ := b
 simp only [Exp.w, Atm.w] at hl hl2 hN
 simp only [Exp.cs]
 refine CW.seqK fun K hK => CW.region ?_
 simp (maxDischargeDepth := 16) [zY]
 refine hK _ _ ?_; clear hK K
 refine CW.seqK fun K hK => CW.region ?_
 rcases Classical.em (k = wk) with e1 | e1
 · subst e1
   rcases Classical.em (nm = wnm) with e2 | e2
   · subst e2
     simp (maxDischargeDepth := 16) [zY]
     refine call_sameW (Atm.mk amk amnm amng amdg amtr) (Atm.mk wamk wamnm wamng wamdg wamtr) hS (agg_inj Atm.inj) (by simp only [nrmR, AV.nrm, limR_nrm, Atm.cs]) (by simp only [Trm.w, Ty.w, Atm.w]; omega) (by simp only [Trm.w, Ty.w, Atm.w]; omega) (by simp only [Trm.w, Ty.w, Atm.w]; omega) fun _ => ?_
     cases hq3 : eqb (Atm.mk amk amnm amng amdg amtr) (Atm.mk wamk wamnm wamng wamdg wamtr) with
     | true =>
      simp (maxDischargeDepth := 16) [zY]
      refine call_sameG (ty) (wty) h1 (sl_inj tyR_inj) (by simp only [nrmR, AV.nrm, tyR_nrm]) (by omega) (by omega) (by omega) fun _ => ?_
      cases hq4 : eqb (ty) (wty) with
      | true =>
       simp (maxDischargeDepth := 16) [zY]
       refine call_sameG (rh) (wrh) h2 (sl_inj rhsR_inj) (by simp only [nrmR, AV.nrm, rhsR_nrm]) (by omega) (by omega) (by omega) fun _ => ?_
       cases hq5 : eqb (rh) (wrh) with
       | true =>
        simp (maxDischargeDepth := 16) [zY]
        refine call_sameG (bd) (wbd) h5 (sl_inj expR_inj) (by simp only [nrmR, AV.nrm, expR_nrm]) (by omega) (by omega) (by omega) fun _ => ?_
        cases hq6 : eqb (bd) (wbd) with
        | true =>
         simp (maxDischargeDepth := 16) [zY]
         refine call_sameG (ar) (war) h4 (sl_inj armR_inj) (by simp only [nrmR, AV.nrm, armR_nrm]) (by omega) (by omega) (by omega) fun _ => ?_
         cases hq7 : eqb (ar) (war) with
         | true =>
          simp (maxDischargeDepth := 16) [zY]
          refine hK _ _ ?_
          refine CW.ret (hR0 _ _ _ ⟨.lit (.bool true), by simp [zA, omap, zB, zF, lk], ?_⟩)
          cases eqb_iff.1 hq3
          cases eqb_iff.1 hq4
          cases eqb_iff.1 hq5
          cases eqb_iff.1 hq6
          cases eqb_iff.1 hq7
          rw [eqb_self]; exact done rfl rfl
         | false =>
          simp (maxDischargeDepth := 16) [zY]
          refine hK _ _ ?_
          refine CW.ret (hR0 _ _ _ ⟨.lit (.bool false), by simp [zA, omap, zB, zF, lk], ?_⟩)
          rw [eqb_ne (fun h => by cases h; exact eqb_no hq7 rfl)]; exact done rfl rfl
        | false =>
         simp (maxDischargeDepth := 16) [zY]
         refine hK _ _ ?_
         refine CW.ret (hR0 _ _ _ ⟨.lit (.bool false), by simp [zA, omap, zB, zF, lk], ?_⟩)
         rw [eqb_ne (fun h => by cases h; exact eqb_no hq6 rfl)]; exact done rfl rfl
       | false =>
        simp (maxDischargeDepth := 16) [zY]
        refine hK _ _ ?_
        refine CW.ret (hR0 _ _ _ ⟨.lit (.bool false), by simp [zA, omap, zB, zF, lk], ?_⟩)
        rw [eqb_ne (fun h => by cases h; exact eqb_no hq5 rfl)]; exact done rfl rfl
      | false =>
       simp (maxDischargeDepth := 16) [zY]
       refine hK _ _ ?_
       refine CW.ret (hR0 _ _ _ ⟨.lit (.bool false), by simp [zA, omap, zB, zF, lk], ?_⟩)
       rw [eqb_ne (fun h => by cases h; exact eqb_no hq4 rfl)]; exact done rfl rfl
     | false =>
      simp (maxDischargeDepth := 16) [zY]
      refine hK _ _ ?_
      refine CW.ret (hR0 _ _ _ ⟨.lit (.bool false), by simp [zA, omap, zB, zF, lk], ?_⟩)
      rw [eqb_ne (fun h => by cases h; exact eqb_no hq3 rfl)]; exact done rfl rfl
   · simp (maxDischargeDepth := 16) [zY, e2, beqL, eqb_ne e2]
     refine hK _ _ ?_
     refine CW.ret (hR0 _ _ _ ⟨.lit (.bool false), by simp [zA, omap, zB, zF, lk], ?_⟩)
     rw [eqb_ne (fun h => by cases h; exact e2 rfl)]; exact done rfl rfl
 · simp (maxDischargeDepth := 16) [zY, e1, beq_eq_false_iff_ne.2 e1]
   refine hK _ _ ?_
   refine CW.ret (hR0 _ _ _ ⟨.lit (.bool false), by simp [zA, omap, zB, zF, lk], ?_⟩)
   rw [eqb_ne (fun h => by cases h; exact e1 rfl)]; exact done rfl rfl
end Go.Proofs.YtncoidmbmihliaaGreatDoor
