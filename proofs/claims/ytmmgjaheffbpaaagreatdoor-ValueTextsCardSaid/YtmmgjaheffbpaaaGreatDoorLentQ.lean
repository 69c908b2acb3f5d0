/-
 EV: lent lists: limbs, and values that hold nothing.
-/
import Derived.Test.YtmmgjaheffbpaaaGreatDoorWBaseQ
import Derived.Test.YtmmgjaheffbpaaaGreatDoorEvSymQ
import Derived.Lib.LaidTab
import GoSem.ClaimChange
namespace Go.Proofs.YtmmgjaheffbpaaaGreatDoor
set_option maxRecDepth 100000
set_option maxHeartbeats 8000000
set_option linter.unusedSimpArgs false
set_option linter.unusedVariables false
set_option linter.unusedSectionVars false
section
open Go.RowKit
abbrev intV (x : Int) : AV := .lit (.int .i64 x)
variable {S : Sp} {N : Nat}
theorem CW.run {P : Program} {E : Env} {M : List TypeId} {c : Code} {tm tm' : List AV} {σ σ' : Sto} {x : AExit} {Q : AExit → List AV → Sto → Prop} (k : Nat) (h : ∀ (n : Nat) (call : CallF), evCode P M call (n + k) c tm σ = some (x, tm', σ')) (hq : Q x tm' σ') : CW P E M c tm σ Q :=
 ⟨x, tm', σ', k, fun n m hn _ => by obtain ⟨j, rfl⟩ : ∃ j, n = j + k := ⟨n - k, by omega⟩; exact h j _, hq⟩
def resOf (P : Program) (fn : Func) : Option (AExit × List AV × Sto) → Option (AV × Sto)
 | some (.normal, tm, σ') => (zA P fn tm σ').map fun v => (v, σ')
 | some (.ret, tm, σ') => (zA P fn tm σ').map fun v => (v, σ')
 | _ => none
theorem JC.run {P : Program} {E : Env} {M : List TypeId} {f : FuncId} {fn : Func} {c : Code} {args : List AV} {σ σ' : Sto} {v : AV} {Q : ARes → Sto → Prop} (k : Nat) (hf : E.code f = some fn) (hc : fn.body = some c) (hm : E.ms f = M)
    (h : ∀ (n : Nat) (call : CallF), evCode P M call (n + k) c (args ++ List.replicate (fn.ntmps - args.length) (.tup [])) σ = evCode P M noCall k c (args ++ List.replicate (fn.ntmps - args.length) (.tup [])) σ)
    (hv : resOf P fn (evCode P M noCall k c (args ++ List.replicate (fn.ntmps - args.length) (.tup [])) σ) = some (v, σ')) (hq : Q (.ret v) σ') : JC P E f args σ Q := by
 refine J.body hf hc (J.cw ?_)
 rw [hm]
 generalize evCode P M noCall k c (args ++ List.replicate (fn.ntmps - args.length) (.tup [])) σ = o at h hv
 unfold resOf at hv
 split at hv
 · rename_i tm s
   obtain ⟨v', h1, h2⟩ := Option.map_eq_some_iff.1 hv
   cases h2
   exact CW.run k h ⟨_, h1, hq⟩
 · rename_i tm s
   obtain ⟨v', h1, h2⟩ := Option.map_eq_some_iff.1 hv
   cases h2
   exact CW.run k h ⟨_, h1, hq⟩
 · cases hv
def kM (i : Nat) : Int := ((8000024 + i : Nat) : Int)
theorem kM_wrap {i : Nat} (h : i < 12) : IntKind.u32.wrap (kM i) = kM i := by unfold kM; rw [IntKind.wrap_u32]; omega
abbrev markF : FS := smF (fun i : Nat => [intV 1, intV i]) (fun i => intV (kM i)) (fun i => i < 12) (fun _ => 0) 0
abbrev markTF : FS := smF (fun i : Nat => [intV 1, intV i]) (fun i => .lit (.string (markB i))) (fun i => i < 12) (fun _ => 0) 0
theorem mark_inj (a b : Nat) (e : [intV 1, intV a] = [intV 1, intV b]) : a = b := by
 simp only [List.cons.injEq, AV.lit.injEq, Value.int.injEq, and_true, true_and] at e
 omega
theorem mark_w (hc : S.code = codeP Tryz.prog) (hm : S.ms 73 = []) : SmOk Tryz.prog S N 73 (fun i : Nat => [intV 1, intV i]) (fun i => intV (kM i)) (fun i => i < 12) (fun _ => 0) 0 := by
 intro i σ hi hN
 refine JC.run (σ' := σ) (v := intV (kM i)) 20 (codeOf hc Tryz.func73 rfl (by kernel_rfl)) rfl hm ?_ ?_ (done0 rfl rfl)
 · intro n call
   rcases i with _ | _ | _ | _ | _ | _ | _ | _ | _ | _ | _ | _ | i
   iterate 12 kernel_rfl
   omega
 · rcases i with _ | _ | _ | _ | _ | _ | _ | _ | _ | _ | _ | _ | i
   iterate 12 kernel_rfl
   omega
theorem markText_w (hc : S.code = codeP Tryz.prog) (hm : S.ms 74 = []) : SmOk Tryz.prog S N 74 (fun i : Nat => [intV 1, intV i]) (fun i => .lit (.string (markB i))) (fun i => i < 12) (fun _ => 0) 0 := by
 intro i σ hi hN
 refine JC.run (σ' := σ) (v := .lit (.string (markB i))) 20 (codeOf hc Tryz.func74 rfl (by kernel_rfl)) rfl hm ?_ ?_ (done0 rfl rfl)
 · intro n call
   rcases i with _ | _ | _ | _ | _ | _ | _ | _ | _ | _ | _ | _ | i
   iterate 12 kernel_rfl
   omega
 · rcases i with _ | _ | _ | _ | _ | _ | _ | _ | _ | _ | _ | _ | i
   iterate 12 kernel_rfl
   omega
theorem room0_len : (roomRows 0).length = 12 := rfl
theorem room0_get {i : Nat} (h : i < 12) : (roomRows 0)[i]? = some [.lit (.int .u32 (kM i))] := by
 rcases i with _ | _ | _ | _ | _ | _ | _ | _ | _ | _ | _ | _ | i
 iterate 12 rfl
 omega
theorem room0_all : (roomRows 0).take 12 = roomRows 0 := rfl
theorem take_snoc {α : Type} {l : List α} {i : Nat} {x : α} (h : l[i]? = some x) : l.take (i + 1) = l.take i ++ [x] := by
 obtain ⟨hl, rfl⟩ := List.getElem?_eq_some_iff.1 h
 exact List.take_succ_eq_append_getElem hl
abbrev lentLF : FS := smF (fun l : List Int => [.sl (limR l) .no]) (fun l => .rsl (limR l) 0) (fun l => l.length ≤ 1000000000) List.length 1
theorem LentLimbs_w (hc : S.code = codeP Tryz.prog) (hm : S.ms 44 = []) (hk : S.sp 73 = some markF) : SmOk Tryz.prog S N 44 (fun l : List Int => [.sl (limR l) .no]) (fun l => .rsl (limR l) 0) (fun l => l.length ≤ 1000000000) List.length 1 := by
 intro l σ hl hN
 have hN0 : 16 * 0 + 0 < N := by omega
 refine JC.startG (fn := Tryz.f44) (codeOf hc Tryz.func44 rfl (by kernel_rfl)) rfl hm rfl (zL rfl) fun tm => ?_
 refine JD.hide fun R0 hR0 => ?_
 refine JD.seqK fun K hK => J.cw (CW.region ?_)
 simp (maxDischargeDepth := 16) [zY]
 refine hK _ _ ?_; clear hK K
 have hw : IntKind.i64.wrap ((l.length : Int) + 12) = ((l.length + 12 : Nat) : Int) := IntWalk.i64_in _ ⟨by omega, by omega⟩
 have h1 : (0 : Int) ≤ ((l.length + 12 : Nat) : Int) := by omega
 have h2 : 4 * ((l.length + 12 : Nat) : Int) ≤ 140737488355328 := by omega
 have h3 : ((l.length + 12 : Nat) : Int) ≤ 140737488355328 := by omega
 generalize hq : ((l.length + 12 : Nat) : Int) = q at *
 refine JD.seqK fun K hK => J.cw (CW.region ?_)
 simp (maxDischargeDepth := 16) [zY, hw, h1, h2, h3]
 refine hK _ _ ?_; clear hK K
 refine JD.keep [0, 2, 3] fun tm => ?_
 simp only [sel, List.contains_cons, List.contains_nil, Bool.or_false, Nat.reduceBEq, Bool.false_eq_true, if_false, if_true, Bool.or_true, Bool.true_or]
 clear h1 h2 h3 hw hq q
 have hx0 : Ext σ (σ ++ [AObj.tok 0 79]) := ⟨_, rfl⟩
 have ht0 : TokN σ (σ ++ [AObj.tok 0 79]) 0 79 1 (.fresh σ.length 1) := .inr ⟨rfl, _, rfl, Nat.le_refl _, by simp⟩
 generalize σ ++ [_] = σ1 at *
 generalize Tok.fresh σ.length 1 = tk1 at *
 refine JD.seqK fun K hK => ?_
 have main : ∀ tok σ2 tm, Ext σ σ2 → TokN σ σ2 l.length 79 1 tok → K (fm 26 [(0, .sl (limR l) .no), (2, .sl [] .full), (3, .sl (limR l) tok)] tm) σ2 := by
  intro tok σ2 tm hx ht
  refine hK _ _ ?_
  clear hK K ht0 hx0
  refine JD.seqK fun K2 hK2 => J.cw ?_
  refine CW.seqK fun K hK => CW.region ?_
  simp (maxDischargeDepth := 16) [zY]
  refine hK _ _ ?_; clear hK K
  refine CW.block (CW.hide fun R1 hR1 => ?_)
  refine CW.loopF (fun p : Nat × Tok × Sto => [(0, .sl (limR l) .no), (2, .sl [] .full), (3, .sl (limR l ++ (roomRows 0).take p.1) p.2.1), (4, intV p.1)]) (fun p => p.2.2) (fun p => p.1 ≤ 12 ∧ Ext σ p.2.2 ∧ TokN σ p.2.2 (l.length + p.1) 79 1 p.2.1) (fun p => 12 - p.1) (0, tok, σ2) (by simp [sub, lk]) rfl ⟨by omega, hx, by simpa using ht⟩ ?_
  clear ht hx tok σ2
  rintro ⟨i, tok, σ3⟩ tm ⟨hi, hx3, ht3⟩
  dsimp only at hi hx3 ht3 ⊢
  refine CW.hide fun R2 hR2 => CW.seqK fun K3 hK3 => CW.seqK fun K4 hK4 => CW.region ?_
  rcases Nat.lt_or_ge i 12 with hlt | hge
  · have hlt' : ((i : Int) < 12) = True := eq_true (by omega)
    simp (maxDischargeDepth := 16) [zY, hlt']
    refine hK4 _ _ ?_
    refine CW.cond (t := true) (by simp [zT, zF, lk]) ?_
    refine CW.skip (hK3 _ _ ?_)
    refine CW.seqK fun K5 hK5 => CW.block ?_
    have hes : (limR l ++ (roomRows 0).take i).length = l.length + i := by rw [List.length_append, limR_len, List.length_take, room0_len]; omega
    have hhd : ((limR l ++ (roomRows 0).take i).head?.all (·.length == 0 + 1)) = true := by
     cases l with
     | cons x l => rfl
     | nil =>
      cases i with
      | zero => rfl
      | succ i => rfl
    obtain ⟨tok', σ4, acc, hx4, ht4, hap⟩ := append_N (P := Tryz.prog) (M := []) (σ0 := σ) (σ := σ3) (es := limR l ++ (roomRows 0).take i) (fs := [[.lit (.int .u32 (kM i))]]) (tok := tok) (tk := .full) (t := 32) (e := 79) (k := 0) (by_ := 4) (z := .int .u32 0) (by kernel_rfl) (by kernel_rfl) (by kernel_rfl) (by kernel_rfl) (by kernel_rfl) (by rw [hes]; simpa using ht3) hx3 hhd rfl (by simp) (by rw [hes]; simp; omega) (by rw [hes]; simp; omega)
    rw [hes] at ht4
    have hcv := kM_wrap hlt
    refine CW.region ?_
    simp (maxDischargeDepth := 16) [zY]
    refine call_sm i hk mark_inj (by simp only [nrmR, AV.nrm]) hlt hN0 fun _ => ?_
    simp (maxDischargeDepth := 16) [zY, hcv, hap]
    refine hK5 _ _ ?_
    refine CW.region ?_
    simp (maxDischargeDepth := 16) [zY, wrap_succ (show i ≤ 1000000000000 by omega)]
    refine hR2 _ _ _ ⟨(i + 1, tok', σ4), _, _, rfl, ?_, rfl, ⟨hlt, hx4, .inl (by simpa [Nat.add_assoc] using ht4)⟩, by show 12 - (i + 1) < 12 - i; omega⟩
    simp [sub, lk, take_snoc (room0_get hlt), AV.strip]
  obtain rfl : i = 12 := by omega
  simp (maxDischargeDepth := 16) [zY]
  refine hK4 _ _ ?_
  refine CW.cond (t := false) (by simp [zT, zF, lk]) ?_
  refine CW.exit (hR2 _ _ _ (hR1 _ _ _ ?_))
  simp only [outOf, if_true, andThen]
  refine hK2 _ _ ?_
  refine JD.keep [0, 2, 3] fun tm => ?_
  simp only [sel, List.contains_cons, List.contains_nil, Bool.or_false, Nat.reduceBEq, Bool.false_eq_true, if_false, if_true, Bool.or_true, Bool.true_or]
  refine JD.seqK fun K6 hK6 => ?_
  obtain ⟨τ, rfl⟩ := hx3
  refine JD.lentEnd (es := limR l) (ls := limR l) (g := 0) (tok := tok) (tk := .no) (k := 0) (e := 79) (by decide) (by decide) (by kernel_rfl) (by kernel_rfl) (by simp [lk, room0_all]) (by simp [lk]) rfl (by simp [room0_len]) ?_
  refine hK6 _ _ ?_
  exact JD.ret (hR0 _ _ _ ⟨.rsl (limR l) 0, by simp [zA, omap, zB, zF, lk, pt], done (by simp [AV.pln]) (by simp [AV.nrm])⟩)
 rcases Nat.eq_zero_or_pos l.length with h0 | h0
 · obtain rfl := List.eq_nil_of_length_eq_zero h0
   have hap := fun ρ ds ty po af gu x y hx hy => apd0 (P := Tryz.prog) (M := []) (σ := σ1) (es := []) (tok := tk1) (tk := .no) (t := 32) (e := 79) (k := 0) (by_ := 4) (ρ := ρ) (ds := ds) (ty := ty) (po := po) (af := af) (gu := gu) (x := x) (y := y) (by kernel_rfl) (by kernel_rfl) (by kernel_rfl) (by kernel_rfl) rfl (by simp) (by simp) hx hy
   refine J.cw (CW.region ?_)
   simp (maxDischargeDepth := 16) [zY, limR, List.map_nil, hap]
   rw [fm_sel [0, 2, 3]]
   simp only [sel, List.contains_cons, List.contains_nil, Bool.or_false, Nat.reduceBEq, Bool.false_eq_true, if_false, if_true, Bool.or_true, Bool.true_or]
   exact main _ _ _ hx0 ht0
 · obtain ⟨tok', σ4, acc, hx4, ht4, hap⟩ := append_N (P := Tryz.prog) (M := []) (σ0 := σ) (σ := σ1) (es := []) (fs := limR l) (tok := tk1) (tk := .no) (t := 32) (e := 79) (k := 0) (by_ := 4) (z := .int .u32 0) (by kernel_rfl) (by kernel_rfl) (by kernel_rfl) (by kernel_rfl) (by kernel_rfl) (by simpa using ht0) hx0 rfl (limR_hd l) (by rw [limR_len]; omega) (by rw [limR_len, List.length_nil]; omega) (by rw [limR_len, List.length_nil]; omega)
   refine J.cw (CW.region ?_)
   simp (maxDischargeDepth := 16) [zY, hap, limR_stp]
   rw [fm_sel [0, 2, 3]]
   simp only [sel, List.contains_cons, List.contains_nil, Bool.or_false, Nat.reduceBEq, Bool.false_eq_true, if_false, if_true, Bool.or_true, Bool.true_or]
   exact main _ _ _ hx4 (.inl (by simpa using ht4))
structure RoomAt (R : List (List AV)) (l : List Int) : Prop where
 len : (R.length : Int) = (l.length : Int) + 12
 hd : (R.head?.all (·.length == 0 + 1)) = true
 lo : ∀ (i : Nat) (h : i < l.length), R[i]? = some [.lit (.int .u32 l[i])]
 hi : ∀ (i : Nat), l.length ≤ i → i < l.length + 12 → R[i]? = some [.lit (.int .u32 (kM (i - l.length)))]
theorem roomAt (l : List Int) : RoomAt (limR l ++ roomRows 0) l := by
 refine ⟨by rw [List.length_append, limR_len, room0_len]; omega, ?_, fun i h => ?_, fun i h1 h2 => ?_⟩
 · cases l with
   | cons x l => rfl
   | nil => rfl
 · rw [List.getElem?_append_left (by rw [limR_len]; exact h)]; exact limR_get h
 · rw [List.getElem?_append_right (by rw [limR_len]; exact h1), limR_len]; exact room0_get (by omega)
abbrev keptLF : FS := smF (fun l : List Int => [.rsl (limR l) 0, .sl (limR l) .no]) (fun l => .lit (.bool true)) (fun l => l.length ≤ 1000000000) List.length 1
theorem KeptLimbs_w (hc : S.code = codeP Tryz.prog) (hm : S.ms 63 = []) (hk : S.sp 73 = some markF) : SmOk Tryz.prog S N 63 (fun l : List Int => [.rsl (limR l) 0, .sl (limR l) .no]) (fun l => .lit (.bool true)) (fun l => l.length ≤ 1000000000) List.length 1 := by
 intro l σ hl hN
 have hN0 : 16 * 0 + 0 < N := by omega
 refine JC.startF (fn := Tryz.f63) (codeOf hc Tryz.func63 rfl (by kernel_rfl)) rfl hm rfl (zL rfl) fun tm => ?_
 refine CW.hide fun R0 hR0 => ?_
 have hRm := roomAt l
 generalize hR : limR l ++ roomRows 0 = R at hRm
 obtain ⟨e1, e2, e3, e4⟩ := hRm
 have hw : IntKind.i64.wrap ((l.length : Int) + 12) = (l.length : Int) + 12 := IntWalk.i64_in _ ⟨by omega, by omega⟩
 refine CW.seqK fun K hK => CW.region ?_
 simp (maxDischargeDepth := 16) [zY]
 refine hK _ _ ?_; clear hK K
 refine CW.seqK fun K hK => CW.seqK fun K2 hK2 => CW.region ?_
 simp (maxDischargeDepth := 16) [zY]
 refine hK2 _ _ ?_; clear hK2 K2
 refine CW.cond (t := false) (by simp [zT, zF, lk]) ?_
 refine CW.skip (hK _ _ ?_); clear hK K
 refine CW.seqK fun K hK => CW.region ?_
 simp (maxDischargeDepth := 16) [zY, hw, hR, e1, e2]
 refine hK _ _ ?_; clear hK K
 refine CW.keep [0, 1, 4, 5] fun tm => ?_
 simp only [sel, List.contains_cons, List.contains_nil, Bool.or_false, Nat.reduceBEq, Bool.false_eq_true, if_false, if_true, Bool.or_true, Bool.true_or]
 refine CW.seqK fun KL hKL => ?_
 refine CW.seqK fun K hK => CW.region ?_
 simp (maxDischargeDepth := 16) [zY]
 refine hK _ _ ?_; clear hK K
 refine CW.block (CW.hide fun R1 hR1 => ?_)
 refine CW.loopF (fun p : Nat => [(1, .sl (limR l) .no), (5, .sl R .no), (6, intV p)]) (fun _ => σ) (fun p => p ≤ l.length + 12) (fun p => l.length + 12 - p) 0 (by simp [sub, lk]) rfl (Nat.zero_le _) ?_
 intro i tm hi
 refine CW.hide fun R2 hR2 => CW.seqK fun K3 hK3 => CW.seqK fun K4 hK4 => CW.region ?_
 rcases Nat.lt_or_ge i (l.length + 12) with hlt | hge
 · have hlt' : ((i : Int) < (l.length : Int) + 12) = True := eq_true (by omega)
   simp (maxDischargeDepth := 16) [zY, hlt', e1]
   refine hK4 _ _ ?_
   refine CW.cond (t := true) (by simp [zT, zF, lk]) ?_
   refine CW.skip (hK3 _ _ ?_)
   refine CW.seqK fun K5 hK5 => CW.block ?_
   refine CW.seqK fun K6 hK6 => CW.draw (by kernel_rfl) ?_
   rcases Nat.lt_or_ge i l.length with h1 | h1
   · have q1 : ((i : Int) < (l.length : Int)) = True := eq_true (by omega)
     have q2 : ((l.length : Int) ≤ (i : Int)) = False := eq_false (by omega)
     have q3 := e3 i h1
     have q4 := limR_get h1
     generalize l[i] = x at *
     simp (maxDischargeDepth := 16) [zY, q1, q2, q3, q4]
     refine ⟨by kernel_rfl, hK6 _ _ ?_⟩
     refine CW.cond (t := false) (by simp [zT, zF, lk]) ?_
     refine CW.skip ?_
     simp only [outOf, andThen]
     refine hK5 _ _ ?_
     refine CW.region ?_
     simp (maxDischargeDepth := 16) [zY, wrap_succ (show i ≤ 1000000000000 by omega)]
     exact hR2 _ _ _ ⟨i + 1, _, _, rfl, by simp [sub, lk], rfl, hlt, by show l.length + 12 - (i + 1) < l.length + 12 - i; omega⟩
   · have q1 : ((i : Int) < (l.length : Int)) = False := eq_false (by omega)
     have q2 : ((l.length : Int) ≤ (i : Int)) = True := eq_true (by omega)
     have q3 := e4 i h1 hlt
     have hsub : IntKind.i64.wrap ((i : Int) - (l.length : Int)) = ((i - l.length : Nat) : Int) := by rw [IntWalk.i64_in _ ⟨by omega, by omega⟩]; omega
     have hj : i - l.length < 12 := by omega
     have hcv := kM_wrap hj
     generalize i - l.length = j at *
     simp (maxDischargeDepth := 16) [zY, q1, q2, q3, hsub]
     refine call_sm j hk mark_inj (by simp only [nrmR, AV.nrm]) hj hN0 fun hac => ?_
     simp (maxDischargeDepth := 16) [zY, hac, hcv]
     refine ⟨by kernel_rfl, hK6 _ _ ?_⟩
     refine CW.cond (t := false) (by simp [zT, zF, lk]) ?_
     refine CW.skip ?_
     simp only [outOf, andThen]
     refine hK5 _ _ ?_
     refine CW.region ?_
     simp (maxDischargeDepth := 16) [zY, wrap_succ (show i ≤ 1000000000000 by omega)]
     exact hR2 _ _ _ ⟨i + 1, _, _, rfl, by simp [sub, lk], rfl, hlt, by show l.length + 12 - (i + 1) < l.length + 12 - i; omega⟩
 obtain rfl : i = l.length + 12 := by omega
 have hge' : (((l.length + 12 : Nat) : Int) < (l.length : Int) + 12) = False := eq_false (by omega)
 simp (maxDischargeDepth := 16) [zY, e1]
 refine hK4 _ _ ?_
 refine CW.cond (t := false) (by simp [zT, zF, lk]) ?_
 refine CW.exit (hR2 _ _ _ (hR1 _ _ _ ?_))
 simp only [outOf, if_true, andThen]
 refine hKL _ _ ?_
 refine CW.seqK fun K hK => CW.region ?_
 simp (maxDischargeDepth := 16) [zY]
 refine hK _ _ ?_; clear hK K
 exact CW.ret (hR0 _ _ _ ⟨.lit (.bool true), by simp [zA, omap, zB, zF, lk], done0 rfl rfl⟩)
end
section
open Go.RowKit
variable {S : Sp} {N : Nat}
abbrev lentIF : FS := smF (fun p : Bool × List Int => [.agg [.lit (.bool p.1), .sl (limR p.2) .no]]) (fun p => .agg [.lit (.bool p.1), .rsl (limR p.2) 0]) (fun p => p.2.length ≤ 1000000000) (fun p => p.2.length) 2
abbrev keptIF : FS := smF (fun p : Bool × List Int => [.agg [.lit (.bool p.1), .rsl (limR p.2) 0], .agg [.lit (.bool p.1), .sl (limR p.2) .no]]) (fun p => .lit (.bool true)) (fun p => p.2 = []) (fun p => p.2.length) 2
abbrev sameIF : FS := smF (fun p : Bool × List Int => [.agg [.lit (.bool p.1), .sl (limR p.2) .no], .agg [.lit (.bool p.1), .sl (limR p.2) .no]]) (fun p => .lit (.bool true)) (fun p => p.2 = []) (fun p => p.2.length) 1
theorem sameI_inj (a b : Bool × List Int) (e : [AV.agg [.lit (.bool a.1), .sl (limR a.2) .no], .agg [.lit (.bool a.1), .sl (limR a.2) .no]] = [AV.agg [.lit (.bool b.1), .sl (limR b.2) .no], .agg [.lit (.bool b.1), .sl (limR b.2) .no]]) : a = b := by
 obtain ⟨a1, a2⟩ := a; obtain ⟨b1, b2⟩ := b
 simp only [List.cons.injEq, AV.agg.injEq, AV.lit.injEq, Value.bool.injEq, AV.sl.injEq, and_true] at e
 rw [e.1.1, limR_inj e.1.2]
theorem limR_flat (l : List Int) : flatRR (limR l) = limR l := by induction l with | nil => rfl | cons a l ih => simp only [limR, List.map_cons, flatRR, flatR, AV.flat] at ih ⊢; rw [ih]
theorem lim_inj (a b : List Int) (e : [AV.sl (limR a) .no] = [AV.sl (limR b) .no]) : a = b := by
 simp only [List.cons.injEq, AV.sl.injEq, and_true] at e
 exact limR_inj e
theorem limK_inj (a b : List Int) (e : [AV.rsl (limR a) 0, AV.sl (limR a) .no] = [AV.rsl (limR b) 0, AV.sl (limR b) .no]) : a = b := by
 simp only [List.cons.injEq, AV.sl.injEq, and_true] at e
 exact limR_inj e.2
theorem LentInt_w (hc : S.code = codeP Tryz.prog) (hm : S.ms 24 = []) (hl : S.sp 44 = some lentLF) : SmOk Tryz.prog S N 24 (fun p : Bool × List Int => [.agg [.lit (.bool p.1), .sl (limR p.2) .no]]) (fun p => .agg [.lit (.bool p.1), .rsl (limR p.2) 0]) (fun p => p.2.length ≤ 1000000000) (fun p => p.2.length) 2 := by
 rintro ⟨b, l⟩ σ hk hN
 dsimp only at hk hN ⊢
 refine JC.startF (fn := Tryz.f24) (codeOf hc Tryz.func24 rfl (by kernel_rfl)) rfl hm rfl (zL rfl) fun tm => ?_
 refine CW.hide fun R0 hR0 => ?_
 refine CW.seqK fun K hK => CW.region ?_
 simp (maxDischargeDepth := 16) [zY]
 refine hK _ _ ?_; clear hK K
 refine CW.seqK fun K hK => CW.region ?_
 simp (maxDischargeDepth := 16) [zY]
 refine call_sm l hl lim_inj (by simp [nrmR, AV.nrm]) hk (by omega) fun _ => ?_
 simp (maxDischargeDepth := 16) [zY]
 refine hK _ _ ?_; clear hK K
 refine CW.seqK fun K hK => CW.region ?_
 simp (maxDischargeDepth := 16) [zY]
 refine hK _ _ ?_; clear hK K
 exact CW.ret (hR0 _ _ _ ⟨.agg [.lit (.bool b), .rsl (limR l) 0], by simp [zA, omap, zC, zX], done (by simp [AV.pln, plnR]) (by simp [AV.nrm, nrmR])⟩)
theorem KeptInt_w (hc : S.code = codeP Tryz.prog) (hm : S.ms 35 = []) (hs : S.sp 32 = some sameIF) (hl : S.sp 63 = some keptLF) : SmOk Tryz.prog S N 35 (fun p : Bool × List Int => [.agg [.lit (.bool p.1), .rsl (limR p.2) 0], .agg [.lit (.bool p.1), .sl (limR p.2) .no]]) (fun p => .lit (.bool true)) (fun p => p.2 = []) (fun p => p.2.length) 2 := by
 rintro ⟨b, l⟩ σ hk hN
 dsimp only at hk hN ⊢
 refine JC.startF (fn := Tryz.f35) (codeOf hc Tryz.func35 rfl (by kernel_rfl)) rfl hm rfl (zL rfl) fun tm => ?_
 refine CW.hide fun R0 hR0 => ?_
 refine CW.seqK fun K hK => CW.region ?_
 simp (maxDischargeDepth := 16) [zY]
 refine hK _ _ ?_; clear hK K
 refine CW.seqK fun K hK => CW.region ?_
 simp (maxDischargeDepth := 16) [zY]
 refine call_smK (b, l) hs sameI_inj (by simp [flatR, flatRR, AV.flat, limR_flat]) (fun q h => by simp [nrmR, AV.nrm] at h) hk (by dsimp only; omega) fun _ => ?_
 simp (maxDischargeDepth := 16) [zY]
 refine call_sm l hl limK_inj (by simp [nrmR, AV.nrm]) (by rw [hk]; simp) (by omega) fun _ => ?_
 simp (maxDischargeDepth := 16) [zY]
 refine hK _ _ ?_; clear hK K
 exact CW.ret (hR0 _ _ _ ⟨.lit (.bool true), by simp [zA, omap, zB, zF, lk], done rfl rfl⟩)
end
section
open Go.RowKit
def Zall (w : World) (b j : Nat) : Prop := (w.cell? ⟨b, j, none⟩).isSome = true
theorem Match.start (w : World) (hG : ∀ (g : Nat) (l : List Value), globRow g = some l → VR [] (Zall w) w (.eptr (l.map .lit) 0) (.pointer (some ⟨g, 0, none⟩)) ∧ g < w.heap.size ∧ cellsz w g = l.length := by intro g l h; cases h) : Match [] [] (Zall w) w :=
 ⟨rfl, fun id o b h => by simp at h, fun i j b o p h => by simp at h, fun b j h => by
  unfold Zall at h
  rw [Option.isSome_iff_exists] at h
  obtain ⟨u, hu⟩ := h
  have := World.block_lt_of_cell? w _ hu
  exact this, hG, fun id b h => by simp at h⟩
section
variable {H : Type} (P : Program)
def tiles : List Field → Nat → Option Nat
 | [], n => some n
 | f :: fs, n => if f.offset = n then tiles fs (n + P.cellsOf f.type) else none
def avFields (g : TypeId → DataW H → Option (List AV)) : List Field → List (DataW H) → Option (List AV)
 | [], [] => some []
 | f :: fs, d :: ds => match g f.type d, avFields g fs ds with | some a, some b => some (a ++ b) | _, _ => none
 | _, _ => none
def avOf : Nat → TypeId → DataW H → Option (List AV)
 | 0, _, _ => none
 | n + 1, t, d =>
  match P.underlying t, d with
  | some .bool, .lit (.bool b) => some [.lit (.bool b)]
  | some (.int k), .lit (.int _ m) => some [.lit (.int k m)]
  | some .string, .lit (.string l) => some [.lit (.string ⟨l.toArray⟩)]
  | some (.slice _), .nil => some [.sl [] .no]
  | some (.slice e), .slice elems _ => (omap (avOf n e) elems).map fun rows => [.sl rows .no]
  | some (.struct fs), .agg parts => avFields (avOf n) fs.toList parts
  | _, _ => none
def okKind (S : List TypeId) (t : TypeId) : Bool :=
 match P.underlying t with
 | some .bool | some (.int _) | some .string => decide (P.cellsOf t = 1)
 | some (.slice e) => S.contains e && decide (0 < P.cellsOf e) && decide (P.cellsOf t = 1)
 | some (.struct fs) => fs.toList.all (fun f => S.contains f.type) && decide (tiles P fs.toList 0 = some (P.cellsOf t))
 | _ => false
end
theorem omap_some {α β : Type} {f : α → Option β} : ∀ {l : List α}, (∀ (i : Nat) (a : α), l[i]? = some a → ∃ b, f a = some b) → ∃ m, omap f l = some m
 | [], _ => ⟨[], rfl⟩
 | a :: l, h => by
  obtain ⟨b, hb⟩ := h 0 a rfl
  obtain ⟨m, hm⟩ := omap_some (l := l) fun i x hx => h (i + 1) x (by simpa using hx)
  exact ⟨b :: m, by rw [omap, hb, hm]⟩
theorem spot_none {w : World} {a : Addr} {u : Value} (h : w.cell? a = some u) : a = ⟨a.block, a.off, none⟩ := by
 obtain ⟨b, o, s⟩ := a
 cases s with
 | none => rfl
 | some s =>
  simp [World.cell?] at h
  split at h <;> simp at h
theorem add_none (b o n : Nat) : (⟨b, o, none⟩ : Addr).add n = ⟨b, o + n, none⟩ := by
 unfold Addr.add
 split
 · rename_i h; subst h; rfl
 · rfl
theorem cells_at {w : World} {base n : Nat} {a : Addr} {cs : List Value} (h : w.cells? base a n = some cs) : cs.length = n ∧ ∀ (j : Nat) (u : Value), cs[j]? = some u → w.cell? (a.add j) = some u := by
 unfold World.cells? at h
 split at h
 · rw [← omap_mapM] at h
   refine ⟨by rw [omap_len h]; simp, fun j u hu => ?_⟩
   obtain ⟨i, h1, h2⟩ := omap_get h j u hu
   have hj : j < n := by have := (List.getElem?_eq_some_iff.1 hu).1; rw [omap_len h] at this; simpa using this
   rw [List.getElem?_range hj] at h1
   cases h1
   exact h2
 · cases h
section
variable {H : Type} {enc : TypeId × Value → H} {P : Program} {w : World} {ι : List Nat}
theorem struct_open {n : Nat} {cs : List Value} (S : List TypeId)
    (ih : ∀ (t : TypeId) (c : List Value) (d : DataW H) (ps : List MemPlace), t ∈ S → DataW.trod enc P w 0 (fun _ => true) true n t c = some (d, ps) → ∃ acs, avOf P n t d = some acs ∧ CR ι (Zall w) w acs c ∧ acs.length = P.cellsOf t) :
    ∀ (fs : List Field) (o m : Nat) (xs : List (DataW H × List MemPlace)), tiles P fs o = some m → fs.all (fun f => S.contains f.type) = true → m ≤ cs.length → omap (fun f : Field => DataW.trod enc P w 0 (fun _ => true) true n f.type ((cs.drop f.offset).take (P.cellsOf f.type))) fs = some xs →
     ∃ acs, avFields (avOf P n) fs (xs.map (·.1)) = some acs ∧ CR ι (Zall w) w acs ((cs.drop o).take (m - o)) ∧ o + acs.length = m
 | [], o, m, xs, ht, hS, hm, hx => by
  simp [omap] at hx; subst hx
  simp [tiles] at ht; subst ht
  exact ⟨[], rfl, by simpa using CR.nil, by simp⟩
 | f :: fs, o, m, xs, ht, hS, hm, hx => by
  rw [tiles] at ht
  split at ht
  · rename_i hof
    subst hof
    rw [List.all_cons, Bool.and_eq_true] at hS
    rw [omap] at hx
    split at hx
    · rename_i b bs h1 h2
      cases hx
      obtain ⟨d, ps⟩ := b
      obtain ⟨a1, g1, g2, g3⟩ := ih f.type _ d ps (by simpa using hS.1) h1
      obtain ⟨a2, g4, g5, g6⟩ := struct_open S ih fs (f.offset + P.cellsOf f.type) m bs ht hS.2 hm h2
      refine ⟨a1 ++ a2, ?_, ?_, by simp; omega⟩
      · simp only [List.map_cons, avFields, g1, g4]
      · have := g2.append g5
        have e : m - f.offset = P.cellsOf f.type + (m - (f.offset + P.cellsOf f.type)) := by omega
        rw [e, List.take_add, List.drop_drop]
        exact this
    · cases hx
  · cases ht
theorem open_any (S : List TypeId) (hS : S.all (okKind P S) = true) : ∀ (n : Nat) (t : TypeId) (c : List Value) (d : DataW H) (ps : List MemPlace), t ∈ S → DataW.trod enc P w 0 (fun _ => true) true n t c = some (d, ps) →
    ∃ acs, avOf P n t d = some acs ∧ CR ι (Zall w) w acs c ∧ acs.length = P.cellsOf t
 | 0, t, c, d, ps, ht, h => by simp [DataW.trod] at h
 | n + 1, t, c, d, ps, ht, h => by
  have hk := List.all_eq_true.1 hS t ht
  rw [DataW.trod_step] at h
  unfold DataW.trodStep at h
  unfold okKind at hk
  split at h
  · rename_i bb hu
    simp [hu] at hk
    cases h
    exact ⟨[.lit (.bool bb)], by simp [avOf, hu], ⟨rfl, fun j d u hd hu' => by
     cases j with
     | zero => simp at hd hu'; subst hd; subst hu'; exact ⟨rfl, .lit _ rfl⟩
     | succ j => simp at hd⟩, by simp [hk]⟩
  · rename_i k k' m hu
    simp [hu] at hk
    split at h
    · rename_i hc
      obtain ⟨rfl, _⟩ := hc
      cases h
      exact ⟨[.lit (.int k' m)], by simp [avOf, hu], ⟨rfl, fun j d u hd hu' => by
       cases j with
       | zero => simp at hd hu'; subst hd; subst hu'; exact ⟨rfl, .lit _ rfl⟩
       | succ j => simp at hd⟩, by simp [hk]⟩
    · cases h
  · rename_i hu; simp [hu] at hk
  · rename_i s hu
    simp [hu] at hk
    split at h
    · cases h
      exact ⟨[.lit (.string s)], by simp [avOf, hu], ⟨rfl, fun j d u hd hu' => by
       cases j with
       | zero => simp at hd hu'; subst hd; subst hu'; exact ⟨rfl, .lit _ rfl⟩
       | succ j => simp at hd⟩, by simp [hk]⟩
    · cases h
  · rename_i hu; simp [hu] at hk
  · rename_i hu; simp [hu] at hk
  · rename_i e hu
    simp [hu] at hk
    cases h
    exact ⟨[.sl [] .no], by simp [avOf, hu], ⟨rfl, fun j d u hd hu' => by
     cases j with
     | zero => simp at hd hu'; subst hd; subst hu'; exact ⟨rfl, .nils _ _ _ (fun _ => rfl) (.inl rfl)⟩
     | succ j => simp at hd⟩, by simp [hk]⟩
  · rename_i e a len cap hu
    simp [hu] at hk
    obtain ⟨⟨hk1, hk2⟩, hk3⟩ := hk
    dsimp only at h
    split at h
    · rename_i hc
      obtain ⟨_, hc1, hc2⟩ := hc
      rw [Option.bind_eq_some_iff] at h
      obtain ⟨elems, h1, h2⟩ := h
      rw [Option.map_eq_some_iff] at h2
      obtain ⟨rest, h2, h3⟩ := h2
      cases h3
      have hlen : elems.length = len := by rw [← omap_mapM] at h1; rw [omap_len h1]; simp
      have key : ∀ (i : Nat) (x : DataW H × List MemPlace), elems[i]? = some x → ∃ row c', avOf P n e x.1 = some row ∧ row.length = P.cellsOf e ∧ CR ι (Zall w) w row c' ∧ c'.length = P.cellsOf e ∧ ∀ (j : Nat) (u : Value), c'[j]? = some u → w.cell? ((a.add (i * P.cellsOf e)).add j) = some u := by
       intro i x hx
       rw [← omap_mapM] at h1
       obtain ⟨i', e1, e2⟩ := omap_get h1 i x hx
       have hi : i < len := by rw [← hlen]; exact (List.getElem?_eq_some_iff.1 hx).1
       rw [List.getElem?_range hi] at e1
       cases e1
       rw [Option.bind_eq_some_iff] at e2
       obtain ⟨c', f1, f2⟩ := e2
       obtain ⟨l1, l2⟩ := cells_at f1
       obtain ⟨row, r1, r2, r3⟩ := open_any S hS n e c' x.1 x.2 (by simpa using hk1) f2
       exact ⟨row, c', r1, r3, r2, l1, l2⟩
      obtain ⟨rows, hrows⟩ := omap_some (f := avOf P n e) (l := elems.map (·.1)) fun i x hx => by
       rw [List.getElem?_map, Option.map_eq_some_iff] at hx
       obtain ⟨y, hy, rfl⟩ := hx
       obtain ⟨row, _, r1, _⟩ := key i y hy
       exact ⟨row, r1⟩
      have hrl : rows.length = len := by rw [omap_len hrows]; simp [hlen]
      have key2 : ∀ (i : Nat) (row : List AV), rows[i]? = some row → ∃ c', row.length = P.cellsOf e ∧ CR ι (Zall w) w row c' ∧ c'.length = P.cellsOf e ∧ ∀ (j : Nat) (u : Value), c'[j]? = some u → w.cell? ((a.add (i * P.cellsOf e)).add j) = some u := by
       intro i row hr
       obtain ⟨x, e1, e2⟩ := omap_get hrows i row hr
       rw [List.getElem?_map, Option.map_eq_some_iff] at e1
       obtain ⟨y, hy, rfl⟩ := e1
       obtain ⟨row', c', r1, r2, r3, r4, r5⟩ := key i y hy
       rw [e2] at r1
       cases r1
       exact ⟨c', r2, r3, r4, r5⟩
      refine ⟨[.sl rows .no], by simp [avOf, hu, hrows], ⟨rfl, fun j d u hd hu' => ?_⟩, by simp [hk3]⟩
      cases j with
      | succ j => simp at hd
      | zero =>
       simp at hd hu'
       subst hd; subst hu'
       refine ⟨rfl, ?_⟩
       rcases Nat.eq_zero_or_pos len with h0 | h0
       · subst h0
         have : rows = [] := List.eq_nil_of_length_eq_zero hrl
         subst this
         exact .nils _ _ _ (fun h => by cases h) (.inl rfl)
       · have hspot : a = ⟨a.block, a.off, none⟩ := by
          obtain ⟨c', _, _, r4, r5⟩ := key2 0 _ (List.getElem?_eq_getElem (by omega))
          have := r5 0 _ (List.getElem?_eq_getElem (by omega))
          have e0 : (a.add (0 * P.cellsOf e)).add 0 = a := by simp [Addr.add]
          rw [e0] at this
          exact spot_none this
         generalize a.block = b, a.off = o at hspot
         subst hspot
         refine VR.sl b o len cap (P.cellsOf e) rows .no (fun i j => (w.cell? ⟨b, o + i * P.cellsOf e + j, none⟩).getD .nilFunc) hrl h0 hc1 hc2 (fun i row hr => ?_) (fun i j row d hr hd => ?_) trivial (fun i j row d hr hd => ?_)
         · obtain ⟨_, r2, _⟩ := key2 i row hr
           exact r2
         · obtain ⟨c', r2, r3, r4, r5⟩ := key2 i row hr
           obtain ⟨u, u1, u2, u3⟩ := r3.at hd
           have h := r5 j u u1
           rw [add_none, add_none] at h
           exact ⟨u2, by unfold Zall; rw [h]; rfl, by rw [h]; rfl⟩
         · obtain ⟨c', r2, r3, r4, r5⟩ := key2 i row hr
           obtain ⟨u, u1, u2, u3⟩ := r3.at hd
           have h := r5 j u u1
           rw [add_none, add_none] at h
           rw [h]
           exact u3
    · cases h
  · rename_i fs hu
    rw [hu] at hk
    dsimp only at hk
    rw [Bool.and_eq_true] at hk
    split at h
    · rename_i hc
      rw [Option.map_eq_some_iff] at h
      obtain ⟨xs, h1, h2⟩ := h
      cases h2
      rw [← omap_mapM] at h1
      obtain ⟨acs, g1, g2, g3⟩ := struct_open S (fun t c d ps ht h => open_any S hS n t c d ps ht h) fs.toList 0 (P.cellsOf t) xs (of_decide_eq_true hk.2) hk.1 (by omega) h1
      refine ⟨acs, by simp only [avOf, hu, g1], ?_, by omega⟩
      rw [List.drop_zero, Nat.sub_zero, ← hc, List.take_length] at g2
      exact g2
    · cases h
  all_goals first | (rename_i hu; simp [hu] at hk; done) | (rename_i hu _; simp [hu] at hk; done) | (cases h; done) | skip
end
end
end Go.Proofs.YtmmgjaheffbpaaaGreatDoor
