/-
 EV: the statements' own functions: plain, whole, stands (printed by gen_plain2.py)
-/
import Derived.Test.YtncoidmbmihliaaGreatDoorTPLawM
import Derived.Test.YtncoidmbmihliaaGreatDoorTOfM
import Derived.Test.YtncoidmbmihliaaGreatDoorTSameM
namespace Go.Proofs.YtncoidmbmihliaaGreatDoor
set_option maxRecDepth 100000
set_option maxHeartbeats 8000000
set_option linter.unusedSimpArgs false
set_option linter.unusedVariables false
open Go.RowKit
variable {S : Sp} {N : Nat}
theorem apdX {P : Program} {M : List TypeId} {σ : Sto} {g : List AObj} {tok : Tok} {t e k by_ : Nat} (es fs : List (List AV)) (hA : Apd σ e (es.length * (k + 1)) tok g) (ht : P.underlying t = some (.slice e)) (hk : szOf P e = some (k + 1)) (hb : bytesOf P e = some by_) (hz : ((P.info? e).bind fun x => x.zero).map (fun z => z.cells.size) = some (k + 1))
    (h1 : es.head?.all (·.length == k + 1) = true) (h2 : fs.head?.all (·.length == k + 1) = true) (hby : (es.length + fs.length) * by_ ≤ 140737488355328) (hle : es.length + fs.length ≤ 140737488355328) (hMt : M.contains t = false := by rfl) :
    ∃ tok' g' acc, Apd σ e ((es.length + fs.length) * (k + 1)) tok' g' ∧ ∀ (ρ : Operand → Option AV) (ds : Option Tmp) (ty : TypeId) (po : String) (af : Array Edge) (gu : Option (Nat × Bool)) (x y : Operand) (tk : Tok), ρ x = some (.sl es tok) → ρ y = some (.sl fs tk) →
     evStep P M ρ (σ ++ g) ⟨ds, .call ⟨.builtin .append, #[x, y], #[t, t]⟩, ty, po, af, gu⟩ = some (.val (.sl (es ++ stripRows fs) tok') (σ ++ g') acc) := by
 rcases Nat.eq_zero_or_pos fs.length with hf | hf
 · obtain rfl := List.eq_nil_of_length_eq_zero hf
   refine ⟨tok, g, .pure, by simpa using hA, fun ρ ds ty po af gu x y tk hx hy => ?_⟩
   have := apd0 (P := P) (M := M) (σ := σ ++ g) (ds := ds) (ty := ty) (po := po) (af := af) (gu := gu) (x := x) (y := y) ht hk hb hz h1 (by simpa using hby) (by simpa using hle) hx hy hMt
   rw [this]; simp [stripRows]
 · exact apd es fs hA ht hk hb hz h1 h2 (by omega) hby hle hMt
theorem expR_stp (l : List Exp) : stripRows (expR l) = expR l := by
 unfold stripRows
 rw [expR_map, List.map_map]
 exact List.map_congr_left fun x _ => x.stp
def Rhs.ow : Rhs → Bool
 | .mk k nm ats ps rs bd ts => atmPl ats && prmPl ps && tyPl rs && trmPl ts
def rhsOw : List Rhs → Bool
 | [] => true
 | x :: l => x.ow && rhsOw l
def Rhs.bdOf : Rhs → List Exp
 | .mk _ _ _ _ _ bd _ => bd
def Arm.bdOf : Arm → List Exp
 | .mk _ _ bd => bd
def rhsBd : List Rhs → List Exp
 | [] => []
 | x :: l => x.bdOf ++ rhsBd l
def armBd : List Arm → List Exp
 | [] => []
 | x :: l => x.bdOf ++ armBd l
theorem expPl_app (a b : List Exp) : expPl (a ++ b) = (expPl a && expPl b) := by induction a with | nil => rfl | cons x l ih => rw [List.cons_append, expPl, expPl, ih, Bool.and_assoc]
theorem rhsPl_eq : ∀ l : List Rhs, rhsPl l = (rhsOw l && expPl (rhsBd l))
 | [] => rfl
 | ⟨k, nm, ats, ps, rs, bd, ts⟩ :: l => by
  rw [rhsPl, Rhs.pl, rhsOw, Rhs.ow, rhsBd, expPl_app, rhsPl_eq l, Rhs.bdOf]
  generalize (atmPl ats && prmPl ps && tyPl rs && trmPl ts) = a
  cases a <;> cases expPl bd <;> cases rhsOw l <;> rfl
theorem armPl_eq : ∀ l : List Arm, armPl l = expPl (armBd l)
 | [] => rfl
 | ⟨cn, ns, bd⟩ :: l => by rw [armPl, Arm.pl, armBd, expPl_app, armPl_eq l, Arm.bdOf]
theorem Exp.pl_eq (k : Int) (nm : ByteArray) (ty : List Ty) (rh : List Rhs) (am : Atm) (ar : List Arm) (bd : List Exp) : (Exp.mk k nm ty rh am ar bd).pl = (am.pl && tyPl ty && rhsOw rh && expPl (bd ++ rhsBd rh ++ armBd ar)) := by
 rw [Exp.pl, rhsPl_eq, armPl_eq, expPl_app, expPl_app]
 cases am.pl <;> cases tyPl ty <;> cases rhsOw rh <;> cases expPl bd <;> cases expPl (rhsBd rh) <;> cases expPl (armBd ar) <;> rfl
theorem expN_app (a b : List Exp) : expN (a ++ b) = expN a + expN b := by induction a with | nil => simp [expN] | cons x l ih => simp only [List.cons_append, expN, ih]; omega
theorem rhsBd_n : ∀ l : List Rhs, expN (rhsBd l) ≤ rhsN l
 | [] => Nat.le_refl _
 | ⟨k, nm, ats, ps, rs, bd, ts⟩ :: l => by have := rhsBd_n l; simp only [rhsBd, Rhs.bdOf, expN_app, rhsN, Rhs.n]; omega
theorem armBd_n : ∀ l : List Arm, expN (armBd l) ≤ armN l
 | [] => Nat.le_refl _
 | ⟨cn, ns, bd⟩ :: l => by have := armBd_n l; simp only [armBd, Arm.bdOf, expN_app, armN, Arm.n]; omega
theorem rhsBd_take {l : List Rhs} {i : Nat} (h : i < l.length) : rhsBd (l.take (i + 1)) = rhsBd (l.take i) ++ l[i].bdOf := by
 induction l generalizing i with
 | nil => simp at h
 | cons x l ih =>
  cases i with
  | zero => simp [rhsBd]
  | succ i => simp only [List.take_succ_cons, rhsBd, List.getElem_cons_succ]; rw [ih (by simpa using h), List.append_assoc]
theorem armBd_take {l : List Arm} {i : Nat} (h : i < l.length) : armBd (l.take (i + 1)) = armBd (l.take i) ++ l[i].bdOf := by
 induction l generalizing i with
 | nil => simp at h
 | cons x l ih =>
  cases i with
  | zero => simp [armBd]
  | succ i => simp only [List.take_succ_cons, armBd, List.getElem_cons_succ]; rw [ih (by simpa using h), List.append_assoc]
theorem rhsN_take {l : List Rhs} {i : Nat} : expN (rhsBd (l.take i)) ≤ expN (rhsBd l) := by
 induction l generalizing i with
 | nil => simp [rhsBd]
 | cons x l ih =>
  cases i with
  | zero => simp [rhsBd, expN]
  | succ i => have := @ih i; simp only [List.take_succ_cons, rhsBd, expN_app]; omega
theorem armN_take {l : List Arm} {i : Nat} : expN (armBd (l.take i)) ≤ expN (armBd l) := by
 induction l generalizing i with
 | nil => simp [armBd]
 | cons x l ih =>
  cases i with
  | zero => simp [armBd, expN]
  | succ i => have := @ih i; simp only [List.take_succ_cons, armBd, expN_app]; omega
abbrev lplainF : FS := pureF (fun e : Exp => [.agg e.cs]) (fun e => .lit (.bool e.pl)) Exp.n 3
theorem lplain_w (hc : S.code = codeP Tryz.prog) (hm : S.ms 10 = []) (h_atoms : S.sp 35 = some latomsF) (h_types : S.sp 36 = some ltypesF) (h_params : S.sp 37 = some lparamsF) (h_terms : S.sp 38 = some ltermsF) (h_plain : S.sp 10 = some lplainF) : PureOk Tryz.prog S N 10 (fun e : Exp => [.agg e.cs]) (fun e => .lit (.bool e.pl)) Exp.n 3 := by
 rintro ⟨k, nm, ty, rh, ⟨amk, amnm, amng, amdg, amtr⟩, ar, bd⟩ σ hll hN
 refine JC.startF (fn := Tryz.f10) (codeOf hc Tryz.func10 rfl (by kernel_rfl)) rfl hm rfl (zL rfl) fun tm => ?_
 refine CW.hide fun R0 hR0 => ?_
 have hpl := Exp.pl_eq k nm ty rh (.mk amk amnm amng amdg amtr) ar bd
 simp only [Exp.n] at hll hN
 simp only [Exp.cs]
 have c_atoms : ∀ (t : Tok) (a : List Atm) (σ2 : Sto) (Q : ARes → Sto → Prop), atmN a ≤ 1000000000 → 16 * atmN a + 0 < N → Q (.ret (.lit (.bool (atmPl a)))) σ2 → CallW Tryz.prog (S.E N) 35 [.sl (atmR a) t] σ2 Q := fun t a σ2 Q h1 h2 hq => call_pure a h_atoms latm_inj (by simp only [nrmR, AV.nrm, atmR_nrm]) h1 h2 fun _ => hq
 have c_terms : ∀ (t : Tok) (a : List Trm) (σ2 : Sto) (Q : ARes → Sto → Prop), trmN a ≤ 1000000000 → 16 * trmN a + 0 < N → Q (.ret (.lit (.bool (trmPl a)))) σ2 → CallW Tryz.prog (S.E N) 38 [.sl (trmR a) t] σ2 Q := fun t a σ2 Q h1 h2 hq => call_pure a h_terms ltrm_inj (by simp only [nrmR, AV.nrm, trmR_nrm]) h1 h2 fun _ => hq
 have c_params : ∀ (t : Tok) (a : List Prm) (σ2 : Sto) (Q : ARes → Sto → Prop), prmN a ≤ 1000000000 → 16 * prmN a + 2 < N → Q (.ret (.lit (.bool (prmPl a)))) σ2 → CallW Tryz.prog (S.E N) 37 [.sl (prmR a) t] σ2 Q := fun t a σ2 Q h1 h2 hq => call_pure a h_params lprm_inj (by simp only [nrmR, AV.nrm, prmR_nrm]) h1 h2 fun _ => hq
 have c_types : ∀ (t : Tok) (a : List Ty) (σ2 : Sto) (Q : ARes → Sto → Prop), tyN a ≤ 1000000000 → 16 * tyN a + 1 < N → Q (.ret (.lit (.bool (tyPl a)))) σ2 → CallW Tryz.prog (S.E N) 36 [.sl (tyR a) t] σ2 Q := fun t a σ2 Q h1 h2 hq => call_pure a h_types lty_inj (by simp only [nrmR, AV.nrm, tyR_nrm]) h1 h2 fun _ => hq
 have c_plain : ∀ (a : Exp) (σ2 : Sto) (Q : ARes → Sto → Prop), a.n ≤ 1000000000 → 16 * a.n + 3 < N → Q (.ret (.lit (.bool a.pl))) σ2 → CallW Tryz.prog (S.E N) 10 [.agg a.cs] σ2 Q := fun a σ2 Q h1 h2 hq => call_pure a h_plain exp1_inj (by simp only [nrmR, AV.nrm, Exp.nrm]) h1 h2 fun _ => hq
 have hrb := rhsBd_n rh
 have hab := armBd_n ar
 have hbl := expN_len bd
 have htot := expN_len (bd ++ rhsBd rh ++ armBd ar)
 have htn : expN (bd ++ rhsBd rh ++ armBd ar) = expN bd + expN (rhsBd rh) + expN (armBd ar) := by rw [expN_app, expN_app]
 refine CW.seqK fun K hK => CW.region ?_
 simp (maxDischargeDepth := 16) [zY]
 refine hK _ _ ?_; clear hK K
 refine CW.seqK fun K hK => CW.seqK fun K1 hK1 => CW.region ?_
 have fin1 : ∀ (b : Bool) (fr : List (Nat × AV)) (tm : List AV), ((Atm.mk amk amnm amng amdg amtr).pl && tyPl ty) = !b → sub [(1, .ptr σ.length 0), (18, .lit (.bool b))] fr → K1 (fm 88 fr tm) (σ ++ [.cells [.lit (.int .u8 k), .lit (.string nm), .sl (tyR ty) .no, .sl (rhsR rh) .no, .lit (.int .u8 amk), .lit (.string amnm), .lit (.bool amng), .sl (limR amdg) .no, .lit (.bool amtr), .sl (armR ar) .no, .sl (expR bd) .no] 34]) := by
  intro b fr tm hb hs
  rw [fm_sub hs]
  refine hK1 _ _ ?_
  cases b with
  | true =>
   refine CW.cond (t := true) (by simp [zT, zF, lk]) ?_
   refine CW.seqK fun K hK => CW.region ?_
   simp (maxDischargeDepth := 16) [zY]
   refine hK _ _ ?_; clear hK K
   have h0 := hpl; rw [hb] at h0; replace h0 : _ = false := h0
   exact CW.ret (hR0 _ _ _ ⟨.lit (.bool false), by simp [zA, omap, zB, zF, lk], by show Fgt _ _ _ (.ret (.lit (.bool (Exp.pl _)))) _; rw [h0]; exact done rfl rfl⟩)
  | false =>
   refine CW.cond (t := false) (by simp [zT, zF, lk]) ?_
   refine CW.skip (hK _ _ ?_)
   obtain ⟨tok', g', acc, hA', hap⟩ := apdX (P := Tryz.prog) (M := []) (σ := σ ++ [.cells [.lit (.int .u8 k), .lit (.string nm), .sl (tyR ty) .no, .sl (rhsR rh) .no, .lit (.int .u8 amk), .lit (.string amnm), .lit (.bool amng), .sl (limR amdg) .no, .lit (.bool amtr), .sl (armR ar) .no, .sl (expR bd) .no] 34]) (t := 32) (e := 34) (k := 10) (by_ := 184) (expR []) (expR bd) (by rw [expR_len]; exact Apd.nil _ _ []) (by kernel_rfl) (by kernel_rfl) (by kernel_rfl) (by kernel_rfl) (expR_hd _) (expR_hd _) (by simp only [expR_len, List.length_nil]; omega) (by simp only [expR_len, List.length_nil]; omega)
   simp only [expR, List.length_nil, Nat.zero_add, List.append_nil, List.append_assoc, List.cons_append, List.nil_append, expR_stp, expR_len] at hap hA'
   refine CW.seqK fun K hK => CW.region ?_
   simp (maxDischargeDepth := 16) [zY, hap]
   refine hK _ _ ?_; clear hK K
   refine CW.seqK fun K2 hK2 => ?_
   refine CW.seqK fun K hK => CW.region ?_
   simp (maxDischargeDepth := 16) [zY]
   refine hK _ _ ?_; clear hK K
   have fin2 : ∀ (tok : Tok) (g : List AObj) (fr : List (Nat × AV)) (tm : List AV), rhsOw rh = true → Apd (σ ++ [.cells [.lit (.int .u8 k), .lit (.string nm), .sl (tyR ty) .no, .sl (rhsR rh) .no, .lit (.int .u8 amk), .lit (.string amnm), .lit (.bool amng), .sl (limR amdg) .no, .lit (.bool amtr), .sl (armR ar) .no, .sl (expR bd) .no] 34]) 34 ((bd ++ rhsBd rh).length * 11) tok g → sub [(1, .ptr σ.length 0), (3, .sl (expR (bd ++ rhsBd rh)) tok)] fr → K2 (fm 88 fr tm) (σ ++ (.cells [.lit (.int .u8 k), .lit (.string nm), .sl (tyR ty) .no, .sl (rhsR rh) .no, .lit (.int .u8 amk), .lit (.string amnm), .lit (.bool amng), .sl (limR amdg) .no, .lit (.bool amtr), .sl (armR ar) .no, .sl (expR bd) .no] 34 :: g)) := by
    intro tok g fr tm how hA hs
    rw [fm_sub hs]
    refine hK2 _ _ ?_
    refine CW.seqK fun K3 hK3 => ?_
    refine CW.seqK fun K hK => CW.region ?_
    simp (maxDischargeDepth := 16) [zY]
    refine hK _ _ ?_; clear hK K
    have fin3 : ∀ (tok : Tok) (g : List AObj) (fr : List (Nat × AV)) (tm : List AV), sub [(3, .sl (expR (bd ++ rhsBd rh ++ armBd ar)) tok)] fr → K3 (fm 88 fr tm) (σ ++ (.cells [.lit (.int .u8 k), .lit (.string nm), .sl (tyR ty) .no, .sl (rhsR rh) .no, .lit (.int .u8 amk), .lit (.string amnm), .lit (.bool amng), .sl (limR amdg) .no, .lit (.bool amtr), .sl (armR ar) .no, .sl (expR bd) .no] 34 :: g)) := by
     intro tok g fr tm hs
     rw [fm_sub hs]
     refine hK3 _ _ ?_
     generalize hL : bd ++ rhsBd rh ++ armBd ar = L at hpl htot htn
     rw [hb, how] at hpl
     replace hpl : _ = expPl L := hpl
     refine CW.seqK fun K hK => ?_
     refine CW.seqK fun K hK => CW.region ?_
     simp (maxDischargeDepth := 16) [zY]
     refine hK _ _ ?_; clear hK K
     refine CW.block (CW.hide fun R hR => ?_)
     refine CW.loopF (fun i : Nat => [(3, .sl (expR L) tok), (7, intV i)]) (fun _ => σ ++ (.cells [.lit (.int .u8 k), .lit (.string nm), .sl (tyR ty) .no, .sl (rhsR rh) .no, .lit (.int .u8 amk), .lit (.string amnm), .lit (.bool amng), .sl (limR amdg) .no, .lit (.bool amtr), .sl (armR ar) .no, .sl (expR bd) .no] 34 :: g)) (fun i => i ≤ L.length ∧ expPl L = expPl (L.drop i)) (fun i => L.length - i) 0 (by simp [sub, lk]) rfl ⟨by simp, by simp⟩ ?_
     rintro i tm ⟨hi, hg⟩
     refine CW.hide fun R2 hR2 => CW.seqK fun K3 hK3 => CW.seqK fun K4 hK4 => CW.region ?_
     rcases Nat.lt_or_ge i L.length with hlt | hge
     · have ha := expR_get hlt
       have hgn := expN_get hlt
       rw [List.drop_eq_getElem_cons hlt, expPl] at hg
       generalize L[i] = x at hgn ha hg
       simp (maxDischargeDepth := 16) [zY, hlt]
       refine hK4 _ _ ?_
       refine CW.cond (t := true) (by simp [zT, zF, lk]) ?_
       refine CW.skip (hK3 _ _ ?_)
       refine CW.seqK fun K5 hK5 => CW.block (CW.seqK fun K6 hK6 => CW.region ?_)
       have fin : ∀ (b : Bool) (fr : List (Nat × AV)) (tm : List AV), x.pl = !b → sub [(3, .sl (expR L) tok), (7, intV i), (87, .lit (.bool b))] fr → K6 (fm 88 fr tm) (σ ++ (.cells [.lit (.int .u8 k), .lit (.string nm), .sl (tyR ty) .no, .sl (rhsR rh) .no, .lit (.int .u8 amk), .lit (.string amnm), .lit (.bool amng), .sl (limR amdg) .no, .lit (.bool amtr), .sl (armR ar) .no, .sl (expR bd) .no] 34 :: g)) := by
        intro b fr tm hb hs
        rw [fm_sub hs]
        refine hK6 _ _ ?_
        cases b with
        | true =>
         refine CW.cond (t := true) (by simp [zT, zF, lk]) ?_
         refine CW.seqK fun K hK => CW.region ?_
         simp (maxDischargeDepth := 16) [zY]
         refine hK _ _ ?_; clear hK K
         have h0 := hpl; rw [hg, hb] at h0; replace h0 : _ = false := h0
         exact CW.ret (hR2 _ _ _ (hR _ _ _ (hR0 _ _ _ ⟨.lit (.bool false), by simp [zA, omap, zB, zF, lk], by show Fgt _ _ _ (.ret (.lit (.bool (Exp.pl _)))) _; rw [h0]; exact done rfl rfl⟩)))
        | false =>
         refine CW.cond (t := false) (by simp [zT, zF, lk]) ?_
         refine CW.skip (hK5 _ _ ?_)
         refine CW.region ?_
         simp (maxDischargeDepth := 16) [zY, wrapS (show i ≤ 1000000000000000 by omega)]
         exact hR2 _ _ _ ⟨i + 1, _, _, rfl, by simp [sub, lk], rfl, ⟨by show i + 1 ≤ _; omega, by rw [hg, hb]; rfl⟩, by show L.length - (i + 1) < L.length - i; omega⟩
       simp (maxDischargeDepth := 16) [zY, ha, Exp.len, Exp.tk]
       refine c_plain x _ _ (by omega) (by omega) ?_
       generalize hb2 : x.pl = b2 at fin
       simp (maxDischargeDepth := 16) [zY]
       exact fin (!b2) _ _ (by simp) (by simp [sub, lk])
     · obtain rfl : i = L.length := by omega
       rw [List.drop_length, expPl] at hg
       simp (maxDischargeDepth := 16) [zY]
       refine hK4 _ _ ?_
       refine CW.cond (t := false) (by simp [zT, zF, lk]) ?_
       refine CW.exit (hR2 _ _ _ (hR _ _ _ ?_))
       simp only [outOf, if_true, andThen]
       refine hK _ _ ?_
       refine CW.seqK fun K hK => CW.region ?_
       simp (maxDischargeDepth := 16) [zY]
       refine hK _ _ ?_; clear hK K
       exact CW.ret (hR0 _ _ _ ⟨.lit (.bool true), by simp [zA, omap, zB, zF, lk], by show Fgt _ _ _ (.ret (.lit (.bool (Exp.pl _)))) _; rw [hpl, hg]; exact done rfl rfl⟩)
    refine CW.block (CW.hide fun R hR => ?_)
    refine CW.loopF (fun p : Nat × Tok × List AObj => [(1, .ptr σ.length 0), (3, .sl (expR (bd ++ rhsBd rh ++ armBd (ar.take p.1))) p.2.1), (6, intV p.1)]) (fun p => σ ++ (.cells [.lit (.int .u8 k), .lit (.string nm), .sl (tyR ty) .no, .sl (rhsR rh) .no, .lit (.int .u8 amk), .lit (.string amnm), .lit (.bool amng), .sl (limR amdg) .no, .lit (.bool amtr), .sl (armR ar) .no, .sl (expR bd) .no] 34 :: p.2.2)) (fun p => p.1 ≤ ar.length ∧ Apd (σ ++ [.cells [.lit (.int .u8 k), .lit (.string nm), .sl (tyR ty) .no, .sl (rhsR rh) .no, .lit (.int .u8 amk), .lit (.string amnm), .lit (.bool amng), .sl (limR amdg) .no, .lit (.bool amtr), .sl (armR ar) .no, .sl (expR bd) .no] 34]) 34 ((bd ++ rhsBd rh ++ armBd (ar.take p.1)).length * 11) p.2.1 p.2.2) (fun p => ar.length - p.1) (0, tok, g) (by simp [sub, lk, armBd]) rfl ⟨by simp, by simpa [armBd] using hA⟩ ?_
    rintro ⟨i, tok, g⟩ tm ⟨hi, hA⟩
    dsimp only at hi hA ⊢
    refine CW.hide fun R2 hR2 => CW.seqK fun K3 hK3 => CW.seqK fun K4 hK4 => CW.region ?_
    have harl := armN_len ar
    rcases Nat.lt_or_ge i ar.length with hlt | hge
    · have ha := armR_get hlt
      have hbt := armBd_take hlt
      have hbn := @armN_take ar (i + 1)
      rw [hbt, expN_app] at hbn
      generalize ar[i] = x at ha hbt hbn
      obtain ⟨cn, ns, abd⟩ := x
      simp only [Arm.cs] at ha
      replace hbt : armBd (ar.take (i + 1)) = armBd (ar.take i) ++ abd := hbt
      replace hbn : expN (armBd (ar.take i)) + expN abd ≤ expN (armBd ar) := hbn
      have hl1 := expN_len (bd ++ rhsBd rh ++ armBd (ar.take i))
      have hl2 := expN_len abd
      have hl3 : expN (bd ++ rhsBd rh ++ armBd (ar.take i)) = expN bd + expN (rhsBd rh) + expN (armBd (ar.take i)) := by rw [expN_app, expN_app]
      generalize hL : bd ++ rhsBd rh ++ armBd (ar.take i) = L at hA hl1 hl3 ⊢
      obtain ⟨tok', g', acc, hA', hap⟩ := apdX (P := Tryz.prog) (M := []) (σ := σ ++ [.cells [.lit (.int .u8 k), .lit (.string nm), .sl (tyR ty) .no, .sl (rhsR rh) .no, .lit (.int .u8 amk), .lit (.string amnm), .lit (.bool amng), .sl (limR amdg) .no, .lit (.bool amtr), .sl (armR ar) .no, .sl (expR bd) .no] 34]) (t := 32) (e := 34) (k := 10) (by_ := 184) (expR (L)) (expR abd) (by rw [expR_len]; exact hA) (by kernel_rfl) (by kernel_rfl) (by kernel_rfl) (by kernel_rfl) (expR_hd _) (expR_hd _) (by simp only [expR_len, List.length_nil]; omega) (by simp only [expR_len, List.length_nil]; omega)
      simp only [List.append_assoc, List.cons_append, List.nil_append, expR_stp, expR_len] at hap hA'
      simp (maxDischargeDepth := 16) [zY, hlt]
      refine hK4 _ _ ?_
      refine CW.cond (t := true) (by simp [zT, zF, lk]) ?_
      refine CW.skip (hK3 _ _ ?_)
      refine CW.seqK fun K5 hK5 => CW.block (CW.region ?_)
      simp (maxDischargeDepth := 16) [zY, ha, hap]
      refine hK5 _ _ ?_
      refine CW.region ?_
      simp (maxDischargeDepth := 16) [zY, wrapS (show i ≤ 1000000000000000 by omega)]
      exact hR2 _ _ _ ⟨(i + 1, tok', g'), _, _, rfl, by simp [sub, lk, hbt, ← hL, expR_app], rfl, ⟨by show i + 1 ≤ _; omega, by dsimp only; rw [hbt, ← List.append_assoc, hL, List.length_append]; exact hA'⟩, by show ar.length - (i + 1) < ar.length - i; omega⟩
    · obtain rfl : i = ar.length := by omega
      rw [List.take_length] at hA ⊢
      simp (maxDischargeDepth := 16) [zY]
      refine hK4 _ _ ?_
      refine CW.cond (t := false) (by simp [zT, zF, lk]) ?_
      refine CW.exit (hR2 _ _ _ (hR _ _ _ ?_))
      simp only [outOf, if_true, andThen]
      exact fin3 tok g _ _ (by simp [sub, lk])
   refine CW.block (CW.hide fun R hR => ?_)
   refine CW.loopF (fun p : Nat × Tok × List AObj => [(1, .ptr σ.length 0), (3, .sl (expR (bd ++ rhsBd (rh.take p.1))) p.2.1), (4, intV p.1)]) (fun p => σ ++ (.cells [.lit (.int .u8 k), .lit (.string nm), .sl (tyR ty) .no, .sl (rhsR rh) .no, .lit (.int .u8 amk), .lit (.string amnm), .lit (.bool amng), .sl (limR amdg) .no, .lit (.bool amtr), .sl (armR ar) .no, .sl (expR bd) .no] 34 :: p.2.2)) (fun p => p.1 ≤ rh.length ∧ rhsOw rh = rhsOw (rh.drop p.1) ∧ Apd (σ ++ [.cells [.lit (.int .u8 k), .lit (.string nm), .sl (tyR ty) .no, .sl (rhsR rh) .no, .lit (.int .u8 amk), .lit (.string amnm), .lit (.bool amng), .sl (limR amdg) .no, .lit (.bool amtr), .sl (armR ar) .no, .sl (expR bd) .no] 34]) 34 ((bd ++ rhsBd (rh.take p.1)).length * 11) p.2.1 p.2.2) (fun p => rh.length - p.1) (0, tok', g') (by simp [sub, lk, rhsBd]) rfl ⟨by simp, by simp, by simpa [rhsBd] using hA'⟩ ?_
   rintro ⟨i, tok, g⟩ tm ⟨hi, hg, hA⟩
   dsimp only at hi hg hA ⊢
   refine CW.hide fun R2 hR2 => CW.seqK fun K3 hK3 => CW.seqK fun K4 hK4 => CW.region ?_
   have hrl := rhsN_len rh
   rcases Nat.lt_or_ge i rh.length with hlt | hge
   · have ha := rhsR_get hlt
     have hgn := rhsN_get hlt
     have hbt := rhsBd_take hlt
     have hbn := @rhsN_take rh (i + 1)
     rw [hbt, expN_app] at hbn
     rw [List.drop_eq_getElem_cons hlt, rhsOw] at hg
     generalize rh[i] = x at ha hbt hbn hg hgn
     obtain ⟨rk, rnm, rats, rps, rrs, rbd, rts⟩ := x
     simp only [Rhs.cs] at ha
     simp only [Rhs.n] at hgn
     replace hg : rhsOw rh = ((atmPl rats && prmPl rps && tyPl rrs && trmPl rts) && rhsOw (rh.drop (i + 1))) := hg
     replace hbt : rhsBd (rh.take (i + 1)) = rhsBd (rh.take i) ++ rbd := hbt
     replace hbn : expN (rhsBd (rh.take i)) + expN rbd ≤ expN (rhsBd rh) := hbn
     have hl1 := expN_len (bd ++ rhsBd (rh.take i))
     have hl2 := expN_len rbd
     have hl3 : expN (bd ++ rhsBd (rh.take i)) = expN bd + expN (rhsBd (rh.take i)) := by rw [expN_app]
     generalize hL : bd ++ rhsBd (rh.take i) = L at hA hl1 hl3 ⊢
     obtain ⟨tok', g', acc, hA', hap⟩ := apdX (P := Tryz.prog) (M := []) (σ := σ ++ [.cells [.lit (.int .u8 k), .lit (.string nm), .sl (tyR ty) .no, .sl (rhsR rh) .no, .lit (.int .u8 amk), .lit (.string amnm), .lit (.bool amng), .sl (limR amdg) .no, .lit (.bool amtr), .sl (armR ar) .no, .sl (expR bd) .no] 34]) (t := 32) (e := 34) (k := 10) (by_ := 184) (expR (L)) (expR rbd) (by rw [expR_len]; exact hA.push [.cells [.lit (.int .u8 rk), .lit (.string rnm), .sl (atmR rats) .no, .sl (prmR rps) .no, .sl (tyR rrs) .no, .sl (expR rbd) .no, .sl (trmR rts) .no] 62]) (by kernel_rfl) (by kernel_rfl) (by kernel_rfl) (by kernel_rfl) (expR_hd _) (expR_hd _) (by simp only [expR_len, List.length_nil]; omega) (by simp only [expR_len, List.length_nil]; omega)
     simp only [List.append_assoc, List.cons_append, List.nil_append, expR_stp, expR_len] at hap hA'
     have hgl : ∀ o : AObj, (g ++ [o])[g.length]? = some o := fun o => by simp
     have hgs : ∀ o o' : AObj, (g ++ [o]).set g.length o' = g ++ [o'] := fun o o' => by rw [List.set_append_right _ _ (Nat.le_refl _)]; simp
     simp (maxDischargeDepth := 16) [zY, hlt]
     refine hK4 _ _ ?_
     refine CW.cond (t := true) (by simp [zT, zF, lk]) ?_
     refine CW.skip (hK3 _ _ ?_)
     refine CW.seqK fun K5 hK5 => CW.block ?_
     refine CW.seqK fun K hK => CW.region ?_
     simp (maxDischargeDepth := 16) [zY, ha, hgl, hgs]
     refine hK _ _ ?_; clear hK K
     refine CW.seqK fun K6 hK6 => CW.seqK fun K7 hK7 => CW.region ?_
     have fin : ∀ (b : Bool) (fr : List (Nat × AV)) (tm : List AV), (atmPl rats && prmPl rps && tyPl rrs && trmPl rts) = !b → sub [(1, .ptr σ.length 0), (3, .sl (expR L) tok), (4, intV i), (5, .ptr (σ.length + (g.length + 1)) 0), (56, .lit (.bool b))] fr → K7 (fm 88 fr tm) (σ ++ (.cells [.lit (.int .u8 k), .lit (.string nm), .sl (tyR ty) .no, .sl (rhsR rh) .no, .lit (.int .u8 amk), .lit (.string amnm), .lit (.bool amng), .sl (limR amdg) .no, .lit (.bool amtr), .sl (armR ar) .no, .sl (expR bd) .no] 34 :: (g ++ [.cells [.lit (.int .u8 rk), .lit (.string rnm), .sl (atmR rats) .no, .sl (prmR rps) .no, .sl (tyR rrs) .no, .sl (expR rbd) .no, .sl (trmR rts) .no] 62]))) := by
      intro b fr tm hb2 hs
      rw [fm_sub hs]
      refine hK7 _ _ ?_
      cases b with
      | true =>
       refine CW.cond (t := true) (by simp [zT, zF, lk]) ?_
       refine CW.seqK fun K hK => CW.region ?_
       simp (maxDischargeDepth := 16) [zY]
       refine hK _ _ ?_; clear hK K
       have h0 := hpl; rw [hb, hg, hb2] at h0; replace h0 : _ = false := h0
       exact CW.ret (hR2 _ _ _ (hR _ _ _ (hR0 _ _ _ ⟨.lit (.bool false), by simp [zA, omap, zB, zF, lk], by show Fgt _ _ _ (.ret (.lit (.bool (Exp.pl _)))) _; rw [h0]; exact done rfl rfl⟩)))
      | false =>
       refine CW.cond (t := false) (by simp [zT, zF, lk]) ?_
       refine CW.skip (hK6 _ _ ?_)
       refine CW.region ?_
       simp (maxDischargeDepth := 16) [zY, hgl, hap]
       refine hK5 _ _ ?_
       refine CW.region ?_
       simp (maxDischargeDepth := 16) [zY, wrapS (show i ≤ 1000000000000000 by omega)]
       exact hR2 _ _ _ ⟨(i + 1, tok', g'), _, _, rfl, by simp [sub, lk, hbt, ← hL, expR_app], rfl, ⟨by show i + 1 ≤ _; omega, by rw [hg, hb2]; rfl, by dsimp only; rw [hbt, ← List.append_assoc, hL, List.length_append]; exact hA'⟩, by show rh.length - (i + 1) < rh.length - i; omega⟩
     simp (maxDischargeDepth := 16) [zY, hgl]
     refine c_atoms _ rats _ _ (by omega) (by omega) ?_
     generalize atmPl rats = b1 at fin ⊢
     cases b1 with
     | false =>
      simp (maxDischargeDepth := 16) [zY]
      exact fin true _ _ (by simp) (by simp [sub, lk])
     | true =>
      simp (maxDischargeDepth := 16) [zY, hgl]
      refine c_params _ rps _ _ (by omega) (by omega) ?_
      generalize prmPl rps = b2 at fin ⊢
      cases b2 with
      | false =>
       simp (maxDischargeDepth := 16) [zY]
       exact fin true _ _ (by simp) (by simp [sub, lk])
      | true =>
       simp (maxDischargeDepth := 16) [zY, hgl]
       refine c_types _ rrs _ _ (by omega) (by omega) ?_
       generalize tyPl rrs = b3 at fin ⊢
       cases b3 with
       | false =>
        simp (maxDischargeDepth := 16) [zY]
        exact fin true _ _ (by simp) (by simp [sub, lk])
       | true =>
        simp (maxDischargeDepth := 16) [zY, hgl]
        refine c_terms _ rts _ _ (by omega) (by omega) ?_
        generalize trmPl rts = b4 at fin ⊢
        simp (maxDischargeDepth := 16) [zY]
        exact fin (!b4) _ _ (by simp) (by simp [sub, lk])
   · obtain rfl : i = rh.length := by omega
     rw [List.drop_length, rhsOw] at hg
     rw [List.take_length] at hA ⊢
     simp (maxDischargeDepth := 16) [zY]
     refine hK4 _ _ ?_
     refine CW.cond (t := false) (by simp [zT, zF, lk]) ?_
     refine CW.exit (hR2 _ _ _ (hR _ _ _ ?_))
     simp only [outOf, if_true, andThen]
     exact fin2 _ _ _ _ hg hA (by simp [sub, lk])
 simp (maxDischargeDepth := 16) [zY]
 refine c_atoms _ [Atm.mk amk amnm amng amdg amtr] _ _ (by simp only [atmN, Atm.n]; omega) (by simp only [atmN, Atm.n]; omega) ?_
 have hp0 : atmPl [Atm.mk amk amnm amng amdg amtr] = (Atm.mk amk amnm amng amdg amtr).pl := by simp [atmPl]
 rw [hp0]
 generalize (Atm.mk amk amnm amng amdg amtr).pl = b1 at fin1 ⊢
 cases b1 with
 | false =>
  simp (maxDischargeDepth := 16) [zY]
  exact fin1 true _ _ (by simp) (by simp [sub, lk])
 | true =>
  simp (maxDischargeDepth := 16) [zY]
  refine c_types _ ty _ _ (by omega) (by omega) ?_
  generalize tyPl ty = b2 at fin1 ⊢
  simp (maxDischargeDepth := 16) [zY]
  exact fin1 (!b2) _ _ (by simp) (by simp [sub, lk])
abbrev nB : ByteArray := ⟨#[40, 110, 111, 110, 101, 41]⟩
abbrev oB : ByteArray := ⟨#[40, 111, 116, 104, 101, 114, 41]⟩
noncomputable def wholeB (e : Exp) : Bool := eqb e ((mkOf [nB] [aV oB]).putE e)
noncomputable def standsB (e : Exp) : Bool := @decide (nB ∉ setL (frE e)) (Classical.propDecidable _) && wholeB e
abbrev SmallE (e : Exp) : Prop := e.n ≤ 2000 ∧ e.w ≤ 4194304
noncomputable abbrev lwholeF : FS := smF (fun e : Exp => [.agg e.cs]) (fun e => .lit (.bool (wholeB e))) SmallE (fun _ => 100000000000) 0
noncomputable abbrev lstandsF : FS := smF (fun e : Exp => [.agg e.cs]) (fun e => .lit (.bool (standsB e))) SmallE (fun _ => 200000000000) 0
theorem whole_n {e : Exp} (h : SmallE e) : ((mkOf [nB] [aV oB]).putE e).w ≤ 4194304 + 4194304 * 2000 := by
 have := put_x (m := mkOf [nB] [aV oB]) (fun a ha => by
  have : a = aV oB := by simpa using ha
  subst this
  decide) e
 have := h.1; have := h.2
 omega
theorem lwhole_w (hc : S.code = codeP Tryz.prog) (hm : S.ms 47 = []) (hV : S.sp 9 = some lvF) (hS : S.sp 7 = some substEF) (hE : S.sp 11 = some (sameW (fun t : Exp => .agg t.cs) Exp.w 2)) :
    SmOk Tryz.prog S N 47 (fun e : Exp => [.agg e.cs]) (fun e => .lit (.bool (wholeB e))) SmallE (fun _ => 100000000000) 0 := by
 intro e σ hsm hN
 refine JC.startF (fn := Tryz.f47) (codeOf hc Tryz.func47 rfl (by kernel_rfl)) rfl hm rfl (zL rfl) fun tm => ?_
 refine CW.hide fun R0 hR0 => ?_
 dsimp only at hN
 have hwn := whole_n hsm
 obtain ⟨h1, h2⟩ := hsm
 have hcn := e.c_le
 have hWe : wholeB e = eqb e ((mkOf [nB] [aV oB]).putE e) := rfl
 refine CW.seqK fun K hK => CW.region ?_
 simp (maxDischargeDepth := 16) [zY, Exp.len, Exp.tk, Exp.put]
 refine hK _ _ ?_; clear hK K
 refine CW.seqK fun K hK => CW.draw (by kernel_rfl) ?_
 simp (maxDischargeDepth := 16) [zY, Exp.len, Exp.tk, Exp.put]
 refine call_sm oB hV lv_inj (by simp only [nrmR, AV.nrm]) trivial (by omega) fun hac => ?_
 simp (maxDischargeDepth := 16) [zY, hac, Exp.len, Exp.tk, Exp.put, Atm.len, Atm.tk, Atm.put]
 refine call_substE ⟨e, [nB], [aV oB]⟩ hS (by simp [nrmR, AV.nrm, nrmRR, Exp.nrm, txtR, atmR, Atm.nrm]) ⟨⟨by show e.n ≤ _; omega, by show e.c ≤ _; omega⟩, by simp, by show 1 ≤ _; omega⟩ (by show 16 * (2 + e.n) + 15 < N; omega) fun hac2 => ?_
 dsimp only at hac2 ⊢
 rw [show (SubX.m ⟨e, [nB], [aV oB]⟩) = mkOf [nB] [aV oB] from rfl] at hac2 ⊢
 generalize hf0 : (mkOf [nB] [aV oB]).putE e = f at hwn hWe hac2 ⊢
 simp (maxDischargeDepth := 16) [zY, hac2, Exp.len, Exp.tk, Exp.put]
 refine ⟨drawOk_sim [σ.length, σ.length + 1] [.reads 0, .pure, .lcalls (fun _ => true), .pure, .lcalls (fun _ => true), .pure, .pure, .pure, .news 1, .writes 1, .pure] (.cons (by simp) (.cons (by simp) .nil)) (.cons (.reads 0 _ rfl) (.cons .pure (.cons (.lcalls _ _ fun i a ha hi => rfl) (.cons .pure (.cons (.lcalls _ _ fun i a ha hi => rfl) (.cons .pure (.cons .pure (.cons .pure (.cons (.news 1 _ rfl) (.cons (.writes 1 _ rfl) (.cons .pure .nil))))))))))) (by kernel_rfl), hK _ _ ?_⟩
 refine CW.seqK fun K hK => CW.region ?_
 simp (maxDischargeDepth := 16) [zY, Exp.len, Exp.tk, Exp.put]
 refine call_sameW e f hE (agg_inj Exp.inj) (by simp only [nrmR, AV.nrm, Exp.nrm]) (by omega) (by omega) (by omega) fun _ => ?_
 simp (maxDischargeDepth := 16) [zY]
 refine hK _ _ ?_
 refine CW.ret (hR0 _ _ _ ⟨.lit (.bool (eqb e f)), by simp [zA, omap, zB, zF, lk], by show Fgt _ _ _ (.ret (.lit (.bool (wholeB e)))) _; rw [hWe]; exact done rfl rfl⟩)
theorem tlP (s t : ByteArray) : s.toList = t.toList ↔ s = t := ⟨fun h => eqb_iff.1 ((beqL s t).symm.trans (by simp [h])), fun h => h ▸ rfl⟩
theorem nB_l : nB.toList = [40, 110, 111, 110, 101, 41] := by first | rfl | decide +kernel | simp | (rw [ByteArray.toList_eq]; rfl)
theorem lstands_w (hc : S.code = codeP Tryz.prog) (hm : S.ms 12 = []) (hF : S.sp 14 = some treeFreeF) (hWh : S.sp 47 = some lwholeF) :
    SmOk Tryz.prog S N 12 (fun e : Exp => [.agg e.cs]) (fun e => .lit (.bool (standsB e))) SmallE (fun _ => 200000000000) 0 := by
 intro e σ hsm hN
 refine JC.startF (fn := Tryz.f12) (codeOf hc Tryz.func12 rfl (by kernel_rfl)) rfl hm rfl (zL rfl) fun tm => ?_
 refine CW.hide fun R0 hR0 => ?_
 dsimp only at hN
 have hs1 := hsm.1
 have hs2 := hsm.2
 refine CW.seqK fun K hK => CW.region ?_
 simp (maxDischargeDepth := 16) [zY, Exp.len, Exp.tk, Exp.put]
 refine hK _ _ ?_; clear hK K
 refine CW.seqK fun K hK => CW.region ?_
 simp (maxDischargeDepth := 16) [zY, Exp.len, Exp.tk, Exp.put]
 refine call_sm e hF exp1_inj (by simp only [nrmR, AV.nrm, Exp.nrm]) (by omega) (by omega) fun _ => ?_
 have hst : standsB e = (@decide (nB ∉ setL (frE e)) (Classical.propDecidable _) && wholeB e) := rfl
 have hfl := free_len e
 generalize hl : setL (frE e) = l at hst hfl ⊢
 simp (maxDischargeDepth := 16) [zY]
 refine hK _ _ ?_; clear hK K
 refine CW.seqK fun K hK => ?_
 refine CW.seqK fun K hK => CW.region ?_
 simp (maxDischargeDepth := 16) [zY]
 refine hK _ _ ?_; clear hK K
 refine CW.block (CW.hide fun R hR => ?_)
 refine CW.loopF (fun i : Nat => [(1, .ptr σ.length 0), (3, .sl (txtR l) .no), (4, intV i)]) (fun _ => σ ++ [.cells e.cs 34]) (fun i => i ≤ l.length ∧ (nB ∈ l ↔ nB ∈ l.drop i)) (fun i => l.length - i) 0 (by simp [sub, lk]) rfl ⟨by simp, by simp⟩ ?_
 rintro i tm ⟨hi, hg⟩
 refine CW.hide fun R2 hR2 => CW.seqK fun K3 hK3 => CW.seqK fun K4 hK4 => CW.region ?_
 rcases Nat.lt_or_ge i l.length with hlt | hge
 · have ha := txtR_get hlt
   rw [List.drop_eq_getElem_cons hlt, List.mem_cons] at hg
   generalize l[i] = x at ha hg
   simp (maxDischargeDepth := 16) [zY, hlt]
   refine hK4 _ _ ?_
   refine CW.cond (t := true) (by simp [zT, zF, lk]) ?_
   refine CW.skip (hK3 _ _ ?_)
   refine CW.seqK fun K5 hK5 => CW.block (CW.seqK fun K6 hK6 => CW.region ?_)
   rcases Classical.em (x = nB) with hx | hx
   · have e1 : (x.toList = [40, 110, 111, 110, 101, 41]) = True := eq_true (by rw [hx, nB_l])
     have e2 : nB ∈ l := hg.2 (.inl hx.symm)
     simp (maxDischargeDepth := 16) [zY, ha, e1]
     refine hK6 _ _ ?_
     refine CW.cond (t := true) (by simp [zT, zF, lk, e1]) ?_
     refine CW.seqK fun K hK => CW.region ?_
     simp (maxDischargeDepth := 16) [zY]
     refine hK _ _ ?_; clear hK K
     have h0 : standsB e = false := by rw [hst]; simp [e2]
     exact CW.ret (hR2 _ _ _ (hR _ _ _ (hR0 _ _ _ ⟨.lit (.bool false), by simp [zA, omap, zB, zF, lk], by show Fgt _ _ _ (.ret (.lit (.bool (standsB e)))) _; rw [h0]; exact done rfl rfl⟩)))
   · have e1 : (x.toList = [40, 110, 111, 110, 101, 41]) = False := eq_false (fun h => hx ((tlP x nB).1 (h.trans nB_l.symm)))
     simp (maxDischargeDepth := 16) [zY, ha, e1]
     refine hK6 _ _ ?_
     refine CW.cond (t := false) (by simp [zT, zF, lk, e1]) ?_
     refine CW.skip (hK5 _ _ ?_)
     refine CW.region ?_
     simp (maxDischargeDepth := 16) [zY, wrapS (show i ≤ 1000000000000000 by omega)]
     exact hR2 _ _ _ ⟨i + 1, _, _, rfl, by simp [sub, lk], rfl, ⟨by show i + 1 ≤ _; omega, hg.trans ⟨fun h => h.resolve_left (fun h => hx h.symm), .inr⟩⟩, by show l.length - (i + 1) < l.length - i; omega⟩
 · obtain rfl : i = l.length := by omega
   rw [List.drop_length] at hg
   have e2 : nB ∉ l := fun h => by simpa using hg.1 h
   have h0 : standsB e = wholeB e := by rw [hst]; simp [e2]
   simp (maxDischargeDepth := 16) [zY]
   refine hK4 _ _ ?_
   refine CW.cond (t := false) (by simp [zT, zF, lk]) ?_
   refine CW.exit (hR2 _ _ _ (hR _ _ _ ?_))
   simp only [outOf, if_true, andThen]
   refine hK _ _ ?_
   refine CW.seqK fun K hK => CW.region ?_
   simp (maxDischargeDepth := 16) [zY, Exp.len, Exp.tk]
   refine call_sm e hWh exp1_inj (by simp only [nrmR, AV.nrm, Exp.nrm]) hsm (by omega) fun _ => ?_
   simp (maxDischargeDepth := 16) [zY]
   refine hK _ _ ?_
   refine CW.ret (hR0 _ _ _ ⟨.lit (.bool (wholeB e)), by simp [zA, omap, zB, zF, lk], by show Fgt _ _ _ (.ret (.lit (.bool (standsB e)))) _; rw [h0]; exact done rfl rfl⟩)
end Go.Proofs.YtncoidmbmihliaaGreatDoor
