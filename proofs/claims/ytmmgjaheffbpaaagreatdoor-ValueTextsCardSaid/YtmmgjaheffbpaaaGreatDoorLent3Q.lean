/-
 EV: marks among values; lent values of nothing.
-/
import Derived.Test.YtmmgjaheffbpaaaGreatDoorLentQ
import Derived.Test.YtmmgjaheffbpaaaGreatDoorEvSortsQ
import Derived.Test.YtmmgjaheffbpaaaGreatDoorEvDrawJQ
namespace Go.Proofs.YtmmgjaheffbpaaaGreatDoor
set_option maxRecDepth 100000
set_option maxHeartbeats 8000000
set_option linter.unusedSimpArgs false
set_option linter.unusedVariables false
set_option linter.unusedSectionVars false
section
open Go.RowKit
variable {S : Sp} {N : Nat}
def kMV (i : Nat) : AV := .agg [.lit (.int .u8 0), .lit (.bool false), .sl [] .no, .lit (.bool false), .lit (.string (markB i)), .sl [] .no]
abbrev markVF : FS := smF (fun i : Nat => [intV 1, intV i]) (fun i => kMV i) (fun i => i < 12) (fun _ => 0) 1
theorem markValue_w (hc : S.code = codeP Tryz.prog) (hm : S.ms 45 = []) (hl : S.sp 74 = some markTF) : SmOk Tryz.prog S N 45 (fun i : Nat => [intV 1, intV i]) (fun i => kMV i) (fun i => i < 12) (fun _ => 0) 1 := by
 intro i σ hk hN
 dsimp only at hk hN ⊢
 refine JC.startF (fn := Tryz.f45) (codeOf hc Tryz.func45 rfl (by kernel_rfl)) rfl hm rfl (zL rfl) fun tm => ?_
 refine CW.hide fun R0 hR0 => ?_
 refine CW.seqK fun K hK => CW.region ?_
 simp (maxDischargeDepth := 16) [zY]
 refine hK _ _ ?_; clear hK K
 refine CW.seqK fun K hK => CW.region ?_
 simp (maxDischargeDepth := 16) [zY]
 refine call_sm i hl mark_inj (by simp [nrmR, AV.nrm]) hk (by omega) fun _ => ?_
 simp (maxDischargeDepth := 16) [zY]
 refine hK _ _ ?_; clear hK K
 refine CW.ret (hR0 _ _ _ ?_)
 refine ⟨.agg [.lit (.int .u8 0), .lit (.bool false), .sl [] .full, .lit (.bool false), .lit (.string (markB i)), .sl [] .full], ?_, ?_⟩
 · simp [zA, omap, zC, zX]
 · exact done (by simp [AV.pln, plnR, plnRR]) (by simp [kMV, AV.nrm, nrmR, nrmRR])
theorem LentValuesN_w (hc : S.code = codeP Tryz.prog) (hm : S.ms 25 = []) (hk : S.sp 45 = some markVF) : SmOk Tryz.prog S N 25 (fun _ : Unit => [.sl [] .no]) (fun _ => .rsl [] 1) (fun _ => True) (fun _ => 0) 2 := by
 intro l σ hl hN
 have hN0 : 16 * 0 + 1 < N := by omega
 refine JC.startG (fn := Tryz.f25) (codeOf hc Tryz.func25 rfl (by kernel_rfl)) rfl hm rfl (zL rfl) fun tm => ?_
 refine JD.hide fun R0 hR0 => ?_
 refine JD.seqK fun K hK => J.cw (CW.region ?_)
 simp (maxDischargeDepth := 16) [zY]
 refine hK _ _ ?_; clear hK K
 refine JD.seqK fun K hK => J.cw (CW.region ?_)
 simp (maxDischargeDepth := 16) [zY, (by decide : IntKind.i64.wrap 12 = 12)]
 refine hK _ _ ?_
 refine JD.keep [0, 3] fun tm => ?_
 simp only [sel, List.contains_cons, List.contains_nil, Bool.or_false, Nat.reduceBEq, Bool.false_eq_true, if_false, if_true, Bool.or_true, Bool.true_or]
 clear hK K
 have hx0 : Ext σ (σ ++ [AObj.tok 0 37]) := ⟨_, rfl⟩
 have ht0 : TokN σ (σ ++ [AObj.tok 0 37]) 0 37 6 (.fresh σ.length 6) := .inr ⟨rfl, _, rfl, Nat.le_refl _, by simp⟩
 generalize σ ++ [_] = σ1 at *
 generalize Tok.fresh σ.length 6 = tk1 at *
 refine JD.seqK fun K hK => J.cw ?_
 refine CW.seqK fun K hK => CW.region ?_
 simp (maxDischargeDepth := 16) [zY]
 refine hK _ _ ?_; clear hK K
 refine CW.block (CW.hide fun R1 hR1 => ?_)
 refine CW.loopF (fun _ : Unit => [(0, .sl [] .no), (3, .sl [] tk1), (4, intV 0)]) (fun _ => σ1) (fun _ => True) (fun _ => 0) () (by simp [sub, lk]) rfl trivial ?_
 rintro ⟨⟩ tm -
 refine CW.hide fun R2 hR2 => CW.seqK fun K3 hK3 => CW.seqK fun K4 hK4 => CW.region ?_
 simp (maxDischargeDepth := 16) [zY]
 refine hK4 _ _ ?_
 refine CW.cond (t := false) (by simp [zT, zF, lk]) ?_
 refine CW.exit (hR2 _ _ _ (hR1 _ _ _ ?_))
 simp only [outOf, if_true, andThen]
 refine hK _ _ ?_
 clear hK4 hK3 hR2 hR1 hK R2 K3 K4 R1 K
 refine JD.keep [0, 3] fun tm => ?_
 simp only [sel, List.contains_cons, List.contains_nil, Bool.or_false, Nat.reduceBEq, Bool.false_eq_true, if_false, if_true, Bool.or_true, Bool.true_or]
 refine JD.seqK fun K2 hK2 => J.cw ?_
 refine CW.seqK fun K hK => CW.region ?_
 simp (maxDischargeDepth := 16) [zY]
 refine hK _ _ ?_; clear hK K
 refine CW.block (CW.hide fun R1 hR1 => ?_)
 refine CW.loopF (fun p : Nat × Tok × Sto => [(0, .sl [] .no), (3, .sl ((roomRows 1).take p.1) p.2.1), (6, intV p.1)]) (fun p => p.2.2) (fun p => p.1 ≤ 12 ∧ Ext σ p.2.2 ∧ TokN σ p.2.2 (p.1 * 6) 37 6 p.2.1) (fun p => 12 - p.1) (0, tk1, σ1) (by simp [sub, lk]) rfl ⟨by omega, hx0, by simpa using ht0⟩ ?_
 clear ht0 hx0 tk1 σ1
 rintro ⟨i, tok, σ3⟩ tm ⟨hi, hx3, ht3⟩
 dsimp only at hi hx3 ht3 ⊢
 refine CW.hide fun R2 hR2 => CW.seqK fun K3 hK3 => CW.seqK fun K4 hK4 => CW.region ?_
 rcases Nat.lt_or_ge i 12 with hlt | hge
 · have hlt' : ((i : Int) < 12) = True := eq_true (by omega)
   simp (maxDischargeDepth := 16) [zY, hlt']
   refine hK4 _ _ ?_
   refine CW.cond (t := true) (by simp [zT, zF, lk]) ?_
   refine CW.skip (hK3 _ _ ?_)
   refine CW.seqK fun K5 hK5 => CW.block ?_
   have hes : ((roomRows 1).take i).length = i := by rw [List.length_take]; show min i 12 = i; omega
   have hhd : (((roomRows 1).take i).head?.all (·.length == 5 + 1)) = true := by
    cases i with
    | zero => rfl
    | succ i => rfl
   obtain ⟨tok', σ4, acc, hx4, ht4, hap⟩ := append_N (P := Tryz.prog) (M := []) (σ0 := σ) (σ := σ3) (es := (roomRows 1).take i) (fs := [[.lit (.int .u8 0), .lit (.bool false), .sl [] .no, .lit (.bool false), .lit (.string (markB i)), .sl [] .no]]) (tok := tok) (tk := .full) (t := 35) (e := 37) (k := 5) (by_ := 88) (by kernel_rfl) (by kernel_rfl) (by kernel_rfl) rfl (by kernel_rfl) (by rw [hes]; simpa using ht3) hx3 hhd rfl (by simp) (by rw [hes]; simp; omega) (by rw [hes]; simp; omega)
   rw [hes] at ht4
   refine CW.region ?_
   simp (maxDischargeDepth := 16) [zY]
   refine call_sm i hk mark_inj (by simp only [nrmR, AV.nrm]) hlt hN0 fun _ => ?_
   simp (maxDischargeDepth := 16) [zY, kMV, hap]
   refine hK5 _ _ ?_
   refine CW.region ?_
   simp (maxDischargeDepth := 16) [zY, wrap_succ (show i ≤ 1000000000000 by omega)]
   refine hR2 _ _ _ ⟨(i + 1, tok', σ4), _, _, rfl, ?_, rfl, ⟨hlt, hx4, .inl (by simpa [Nat.add_mul] using ht4)⟩, by show 12 - (i + 1) < 12 - i; omega⟩
   have hg : (roomRows 1)[i]? = some [.lit (.int .u8 0), .lit (.bool false), .sl [] .no, .lit (.bool false), .lit (.string (markB i)), .sl [] .no] := by
    rcases i with _ | _ | _ | _ | _ | _ | _ | _ | _ | _ | _ | _ | i
    iterate 12 rfl
    omega
   simp [sub, lk, take_snoc hg, AV.strip]
 obtain rfl : i = 12 := by omega
 simp (maxDischargeDepth := 16) [zY]
 refine hK4 _ _ ?_
 refine CW.cond (t := false) (by simp [zT, zF, lk]) ?_
 refine CW.exit (hR2 _ _ _ (hR1 _ _ _ ?_))
 simp only [outOf, if_true, andThen]
 refine hK2 _ _ ?_
 refine JD.keep [0, 3] fun tm => ?_
 simp only [sel, List.contains_cons, List.contains_nil, Bool.or_false, Nat.reduceBEq, Bool.false_eq_true, if_false, if_true, Bool.or_true, Bool.true_or]
 refine JD.seqK fun K6 hK6 => ?_
 obtain ⟨τ, rfl⟩ := hx3
 refine JD.lentEnd (es := []) (ls := []) (g := 1) (tok := tok) (tk := .no) (k := 5) (e := 37) (by decide) (by decide) (by kernel_rfl) (by kernel_rfl) (by simp [lk]; rfl) (by simp [lk]) rfl (by decide) ?_
 refine hK6 _ _ ?_
 exact JD.ret (hR0 _ _ _ ⟨.rsl [] 1, by simp [zA, omap, zB, zF, lk, pt], done (by simp [AV.pln, plnRR]) (by simp [AV.nrm, nrmRR])⟩)
end
section
open Go.RowKit
variable {S : Sp} {N : Nat}
abbrev lentV0F : FS := smF (fun _ : Unit => [.sl [] .no]) (fun _ => .rsl [] 1) (fun _ => True) (fun _ => 0) 2
abbrev val0 (k : Nat) : AV := .agg [.lit (.int .u8 k), .lit (.bool false), .sl (limR []) .no, .lit (.bool false), .lit (.string ⟨#[]⟩), .sl [] .no]
abbrev val0R (k : Nat) : AV := .agg [.lit (.int .u8 k), .lit (.bool false), .rsl (limR []) 0, .lit (.bool false), .lit (.string ⟨#[]⟩), .rsl [] 1]
theorem lentI_inj (a b : Bool × List Int) (e : [AV.agg [.lit (.bool a.1), .sl (limR a.2) .no]] = [.agg [.lit (.bool b.1), .sl (limR b.2) .no]]) : a = b := by
 obtain ⟨a1, a2⟩ := a; obtain ⟨b1, b2⟩ := b
 simp only [List.cons.injEq, AV.agg.injEq, AV.lit.injEq, Value.bool.injEq, AV.sl.injEq, and_true] at e
 rw [e.1, limR_inj e.2]
abbrev lentVF : FS := smF (fun k : Nat => [val0 k]) (fun k => val0R k) (fun _ => True) (fun _ => 0) 3
theorem LentValue_w (hc : S.code = codeP Tryz.prog) (hm : S.ms 11 = []) (hl : S.sp 24 = some lentIF) (hv : S.sp 25 = some lentV0F) : SmOk Tryz.prog S N 11 (fun k : Nat => [val0 k]) (fun k => val0R k) (fun _ => True) (fun _ => 0) 3 := by
 intro k σ hk hN
 dsimp only at hk hN ⊢
 refine JC.startF (fn := Tryz.f11) (codeOf hc Tryz.func11 rfl (by kernel_rfl)) rfl hm rfl (zL rfl) fun tm => ?_
 refine CW.hide fun R0 hR0 => ?_
 refine CW.seqK fun K hK => CW.region ?_
 simp (maxDischargeDepth := 16) [zY]
 refine hK _ _ ?_; clear hK K
 refine CW.seqK fun K hK => CW.region ?_
 simp (maxDischargeDepth := 16) [zY]
 refine call_sm (false, []) hl lentI_inj (by simp [nrmR, AV.nrm]) (by simp) (by simp; omega) fun _ => ?_
 simp (maxDischargeDepth := 16) [zY]
 refine hK _ _ ?_; clear hK K
 refine CW.seqK fun K hK => CW.region ?_
 simp (maxDischargeDepth := 16) [zY]
 refine call_sm () hv (fun _ _ _ => rfl) (by simp [nrmR, AV.nrm, nrmRR]) trivial (by simp; omega) fun _ => ?_
 simp (maxDischargeDepth := 16) [zY]
 refine hK _ _ ?_; clear hK K
 refine CW.seqK fun K hK => CW.region ?_
 simp (maxDischargeDepth := 16) [zY]
 refine hK _ _ ?_; clear hK K
 refine CW.ret (hR0 _ _ _ ?_)
 refine ⟨val0R k, ?_, done (by simp [AV.pln, plnR, plnRR, limR]) (by simp [AV.nrm, nrmR, nrmRR, limR])⟩
 simp [zA, omap, zC, zX]
end
section
open Go.RowKit
theorem sortOf_ev (ds : List Data) (tok : Tok) (hds : smallD ds) (v : Vl) (sort : List UInt8) (t1 t2 : Tok) (σ : Sto) (hv : smallV v) :
    CallW Tryz.prog EV 52 [.sl (rowsD ds) tok, .lit (.string (bs sort)), aggV v t1 t2] σ fun r σ' => r = .ret (.lit (.bool (ofV ds sort v))) ∧ Ext σ σ' :=
 of_ev_ ds tok hds _ v sort t1 t2 σ (Nat.lt_succ_self _) hv
theorem Of_ev (ds : List Data) (tok : Tok) (hds : smallD ds) (v : Vl) (sort : List UInt8) (t1 t2 : Tok) (σ : Sto) (hv : smallV v) :
    CallW Tryz.prog EV 28 [.sl (rowsD ds) tok, .lit (.string (bs sort)), aggV v t1 t2] σ fun r σ' => r = .ret (.lit (.bool (ofV ds sort v))) ∧ Ext σ σ' := by
 have hof := sortOf_ev ds tok hds v sort t1 t2
 obtain ⟨k, b, d, t, n, f⟩ := v
 unfold aggV at hof ⊢
 refine CallW.start (fn := Tryz.f28) (M := []) rfl rfl rfl rfl (by simp) fun tm hlen hss => ?_
 have h0 := hss 0 _ rfl
 have h1 := hss 1 _ rfl
 have h2 := hss 2 _ rfl
 clear hss
 simp at hlen
 refine CW.hide fun R0 hR0 => ?_
 generalize ofV ds sort (.mk k b d t n f) = res at *
 refine CW.seqK fun K hK => CW.region ?_
 simp (maxDischargeDepth := 16) [symB, List.length_set, andThen, hlen, h2]
 refine hK _ _ ?_; clear hK K
 refine CW.seqK fun K hK => CW.region ?_
 simp (maxDischargeDepth := 16) [symB, List.length_set, andThen, hlen, h0, h1]
 refine (hof _ hv).mono ?_
 rintro r σ2 ⟨rfl, hx⟩
 simp (maxDischargeDepth := 16) [symB, List.length_set, andThen, hlen, retK]
 refine hK _ _ ?_
 refine CW.ret (hR0 _ _ _ ⟨.lit (.bool res), ?_, rfl, hx.of_push⟩)
 simp (maxDischargeDepth := 16) [zA, omap, zB, slot_eq, slot_ne, hlen]
def hasCon (name : List UInt8) (row : List AV) : Bool := match row with | [_, .sl cs _] => cs.any (named name) | _ => false
theorem hasCon_D (name : List UInt8) (d : Data) : hasCon name (rowD d) = (rowsC d.2).any (named name) := rfl
theorem ncon_ev (a : AV) (ha : a.one = true) (cs : List Con) (name : List UInt8) (id : Nat) (σ : Sto) (hcs : cs.length ≤ 1000000) (ho : σ[id]? = some (.cells [.lit (.string (bs name))] 9)) :
    CallW Tryz.prog EV 80 [.agg [a, .sl (rowsC cs) .no], .ptr id 0] σ fun r σ' => r = .ret (.lit (.bool ((rowsC cs).any (named name)))) ∧ Ext σ σ' := by
 refine CallW.start (fn := Tryz.f80) (M := []) rfl rfl rfl rfl (by simp) fun tm hlen hss => ?_
 have h0 := hss 0 _ rfl
 have h1 := hss 1 _ rfl
 clear hss
 simp at hlen
 refine CW.hide fun R0 hR0 => ?_
 refine CW.seqK fun K hK => CW.region ?_
 simp (maxDischargeDepth := 16) [symB, List.length_set, andThen, hlen, h0]
 refine hK _ _ ?_; clear hK K
 have hid := (List.getElem?_eq_some_iff.1 ho).1
 have ho2 : (σ ++ [AObj.cells [a, .sl (rowsC cs) .no] 28])[id]? = some (.cells [.lit (.string (bs name))] 9) := by rw [List.getElem?_append_left hid]; exact ho
 refine CW.seqK fun K hK => CW.region ?_
 simp (maxDischargeDepth := 16) [symB, List.length_set, andThen, hlen, h1]
 refine (hasCon_ev (rowsC cs) .no 82 [.ptr id 0] (named name) _ (by rw [rowsC_len]; omega) (rowsC_two _) ?_).mono ?_
 · intro σ3 row hrow hx3
   obtain ⟨c, hc, rfl⟩ := List.mem_map.1 hrow
   rw [named_C]
   exact ncon1_ev c.1 _ rfl name id σ3 (hx3.get ho2)
 rintro r σ3 ⟨rfl, hext3⟩
 simp (maxDischargeDepth := 16) [symB, List.length_set, andThen, hlen, retK]
 refine hK _ _ ?_
 refine CW.ret (hR0 _ _ _ ⟨.lit (.bool ((rowsC cs).any (named name))), ?_, rfl, hext3.of_push⟩)
 simp (maxDischargeDepth := 16) [zA, omap, zB, slot_eq, slot_ne, hlen]
def conB (ds : List Data) (s : List UInt8) : Bool := (rowsD ds).any (hasCon s)
theorem nodeCon_ev (ds : List Data) (tok tk : Tok) (hds : smallD ds) (w : List UInt8) (kids : List (List AV)) (row : Bool) (at_ : Int) (s : List UInt8) (σ : Sto) :
    CallW Tryz.prog EV 51 [.agg [.lit (.string (bs w)), .sl kids tk, .lit (.bool row), .lit (.int .i64 at_), .sl (rowsD ds) tok], .lit (.string (bs s))] σ fun r σ' => r = .ret (.lit (.bool (conB ds s))) ∧ Ext σ σ' := by
 refine CallW.start (fn := Tryz.f51) (M := []) rfl rfl rfl rfl (by simp) fun tm hlen hss => ?_
 have h0 := hss 0 _ rfl
 have h1 := hss 1 _ rfl
 clear hss
 simp at hlen
 refine CW.hide fun R0 hR0 => ?_
 refine CW.seqK fun K hK => CW.region ?_
 simp (maxDischargeDepth := 16) [symB, List.length_set, andThen, hlen, h0, h1]
 refine hK _ _ ?_; clear hK K
 have ho2 : (σ ++ [AObj.cells [.lit (.string (bs w)), .sl kids tk, .lit (.bool row), .lit (.int .i64 at_), .sl (rowsD ds) tok] 68, AObj.cells [.lit (.string (bs s))] 9])[σ.length + 1]? = some (.cells [.lit (.string (bs s))] 9) := by rw [List.getElem?_append_right (by omega)]; simp
 refine CW.seqK fun K hK => CW.region ?_
 simp (maxDischargeDepth := 16) [symB, List.length_set, andThen, hlen]
 refine (hasData_ev (rowsD ds) tok 80 [.ptr (σ.length + 1) 0] (hasCon s) _ (by rw [rowsD_len]; have := hds.1; omega) (rowsD_two _) ?_).mono ?_
 · intro σ3 row hrow hx3
   obtain ⟨d, hd, rfl⟩ := List.mem_map.1 hrow
   rw [hasCon_D]
   exact ncon_ev _ rfl d.2 s (σ.length + 1) σ3 ((hds.2 d hd).1) (hx3.get ho2)
 rintro r σ3 ⟨rfl, hext3⟩
 simp (maxDischargeDepth := 16) [symB, List.length_set, andThen, hlen, retK]
 refine hK _ _ ?_
 refine CW.ret (hR0 _ _ _ ⟨.lit (.bool (conB ds s)), ?_, rfl, hext3.of_push⟩)
 simp (maxDischargeDepth := 16) [zA, omap, zB, slot_eq, slot_ne, hlen, conB]
def bTrue : List UInt8 := [116, 114, 117, 101]
def bFalse : List UInt8 := [102, 97, 108, 115, 101]
def zeroV : Vl := .mk 0 false [] false [] []
def wordV (s : List UInt8) : Vl × Bool :=
 match numOf s with
 | some (b, d) => (.mk 1 b d false [] [], decide (s.length ≤ 400))
 | none => if s = bTrue ∨ s = bFalse then (.mk 2 false [] (s == bTrue) [] [], true) else (zeroV, false)
theorem word_ev (ds : List Data) (tok tk : Tok) (w : List UInt8) (kids : List (List AV)) (row : Bool) (at_ : Int) (σ : Sto) (hw : w.length ≤ 1000000) :
    CallW Tryz.prog EV 50 [.agg [.lit (.string (bs w)), .sl kids tk, .lit (.bool row), .lit (.int .i64 at_), .sl (rowsD ds) tok]] σ fun r σ' => (∃ t1 t2, r = .ret (.tup [aggV (wordV w).1 t1 t2, .lit (.bool (wordV w).2)])) ∧ Ext σ σ' := by
 refine CallW.start (fn := Tryz.f50) (M := []) rfl rfl rfl rfl (by simp) fun tm hlen hss => ?_
 have h0 := hss 0 _ rfl
 clear hss
 simp at hlen
 refine CW.hide fun R0 hR0 => ?_
 refine CW.seqK fun K hK => CW.region ?_
 simp (maxDischargeDepth := 16) [symB, List.length_set, andThen, hlen, h0]
 refine hK _ _ ?_; clear hK K
 obtain ⟨nodec, hnc⟩ : ∃ c : List AV, c = [.lit (.string (bs w)), .sl kids tk, .lit (.bool row), .lit (.int .i64 at_), .sl (rowsD ds) tok] := ⟨_, rfl⟩
 obtain ⟨zc, hzc⟩ : ∃ c : List AV, c = [.lit (.int .u8 0), .lit (.bool false), .sl [] .full, .lit (.bool false), .lit (.string ⟨#[]⟩), .sl [] .full] := ⟨_, rfl⟩
 rw [← hnc, ← hzc]
 have hnd : (σ ++ [AObj.cells nodec 68, AObj.cells zc 37])[σ.length]? = some (.cells nodec 68) := by simp
 have hvl : (σ ++ [AObj.cells nodec 68, AObj.cells zc 37])[σ.length + 1]? = some (.cells zc 37) := by rw [List.getElem?_append_right (by omega)]; simp
 have hxA : Ext σ (σ ++ [AObj.cells nodec 68, AObj.cells zc 37]) := ⟨_, rfl⟩
 generalize (σ ++ [AObj.cells nodec 68, AObj.cells zc 37]) = σA at *
 subst hnc; subst hzc
 refine CW.seqK fun K hK => CW.region ?_
 simp (maxDischargeDepth := 16) [symB, List.length_set, andThen, hlen, hnd]
 refine (numParse_ev w _ hw).mono ?_
 rintro r σ2 hr
 unfold ParseR at hr
 obtain ⟨hr, hx2⟩ := hr
 have hnd2 := hx2.get hnd
 have hvl2 := hx2.get hvl
 have hxx2 := hxA.trans hx2
 have hst : ∀ x : AObj, Ext σ (σ2.set (σ.length + 1) x) := fun x => hxx2.set (by omega)
 cases hno : numOf w with
 | some q =>
  obtain ⟨b, d⟩ := q
  rw [hno] at hr
  dsimp only at hr
  obtain ⟨t, rfl⟩ := hr
  simp (maxDischargeDepth := 16) [symB, List.length_set, andThen, hlen, retK]
  refine hK _ _ ?_; clear hK K
  have hnd3 : (σ2 ++ [AObj.cells [.lit (.bool b), .sl (d32 d) t] 34])[σ.length]? = some (.cells [.lit (.string (bs w)), .sl kids tk, .lit (.bool row), .lit (.int .i64 at_), .sl (rowsD ds) tok] 68) := by rw [List.getElem?_append_left (List.getElem?_eq_some_iff.1 hnd2).1]; exact hnd2
  have hvl3 : (σ2 ++ [AObj.cells [.lit (.bool b), .sl (d32 d) t] 34])[σ.length + 1]? = some (.cells [.lit (.int .u8 0), .lit (.bool false), .sl [] .full, .lit (.bool false), .lit (.string ⟨#[]⟩), .sl [] .full] 37) := by rw [List.getElem?_append_left (List.getElem?_eq_some_iff.1 hvl2).1]; exact hvl2
  have hnm3 : (σ2 ++ [AObj.cells [.lit (.bool b), .sl (d32 d) t] 34])[σ2.length]? = some (.cells [.lit (.bool b), .sl (d32 d) t] 34) := by simp
  have hxx3 : Ext σ (σ2 ++ [AObj.cells [.lit (.bool b), .sl (d32 d) t] 34]) := hxx2.push _
  have hnl : σ.length + 1 < σ2.length := (List.getElem?_eq_some_iff.1 hvl2).1
  have hl3 : σ.length + 1 < (σ2 ++ [AObj.cells [.lit (.bool b), .sl (d32 d) t] 34]).length := by simp; omega
  generalize (σ2 ++ [AObj.cells [.lit (.bool b), .sl (d32 d) t] 34]) = σ3 at *
  refine CW.seqK fun K hK => CW.block ?_
  refine CW.seqK fun K hK => CW.region ?_
  simp (maxDischargeDepth := 16) [symB, List.length_set, andThen, hlen]
  refine hK _ _ ?_; clear hK K
  refine CW.cond (t := true) (by simp (maxDischargeDepth := 16) [zT, slot_eq, slot_ne, hlen]) ?_
  refine CW.seqK fun K2 hK2 => CW.draw (by kernel_rfl) ?_
  simp (maxDischargeDepth := 16) [symB, List.length_set, andThen, hlen, hnd3, hvl3, hnm3, bsz]
  refine ⟨drawOk_ren [σ.length, σ.length + 1, σ2.length] (by simp; omega) [.reads 2, .pure, .pure, .pure, .reads 0, .pure, .pure, .writes 1, .pure] (by kernel_rfl) (by kernel_rfl), hK2 _ _ ?_⟩
  refine CW.ret ?_
  simp only [andThen, outOf]
  have hwv : wordV w = (.mk 1 b d false [] [], decide (w.length ≤ 400)) := by unfold wordV; rw [hno]
  refine hR0 _ _ _ ⟨.tup [aggV (wordV w).1 t .full, .lit (.bool (wordV w).2)], ?_, ⟨t, .full, rfl⟩, hxx3.set (by omega)⟩
  rw [hwv]
  simp (maxDischargeDepth := 16) [zA, omap, zB, zC, slot_eq, slot_ne, hlen, hl3, partA, aggT, aggV, rowsV, bs]
  omega
 | none =>
  rw [hno] at hr
  dsimp only at hr
  subst hr
  simp (maxDischargeDepth := 16) [symB, List.length_set, andThen, hlen, retK]
  refine hK _ _ ?_; clear hK K
  have hnd3 : (σ2 ++ [AObj.cells [.lit (.bool false), .sl [] .full] 34])[σ.length]? = some (.cells [.lit (.string (bs w)), .sl kids tk, .lit (.bool row), .lit (.int .i64 at_), .sl (rowsD ds) tok] 68) := by rw [List.getElem?_append_left (List.getElem?_eq_some_iff.1 hnd2).1]; exact hnd2
  have hvl3 : (σ2 ++ [AObj.cells [.lit (.bool false), .sl [] .full] 34])[σ.length + 1]? = some (.cells [.lit (.int .u8 0), .lit (.bool false), .sl [] .full, .lit (.bool false), .lit (.string ⟨#[]⟩), .sl [] .full] 37) := by rw [List.getElem?_append_left (List.getElem?_eq_some_iff.1 hvl2).1]; exact hvl2
  have hxx3 : Ext σ (σ2 ++ [AObj.cells [.lit (.bool false), .sl [] .full] 34]) := hxx2.push _
  have hnl : σ.length + 1 < σ2.length := (List.getElem?_eq_some_iff.1 hvl2).1
  have hl3 : σ.length + 1 < (σ2 ++ [AObj.cells [.lit (.bool false), .sl [] .full] 34]).length := by simp; omega
  generalize (σ2 ++ [AObj.cells [.lit (.bool false), .sl [] .full] 34]) = σ3 at *
  have hbt : (⟨#[116, 114, 117, 101]⟩ : ByteArray).toList = bTrue := bs_list bTrue
  have hbf : (⟨#[102, 97, 108, 115, 101]⟩ : ByteArray).toList = bFalse := bs_list bFalse
  refine CW.seqK fun K hK => CW.block ?_
  refine CW.seqK fun K hK => CW.region ?_
  simp (maxDischargeDepth := 16) [symB, List.length_set, andThen, hlen]
  refine hK _ _ ?_; clear hK K
  refine CW.cond (t := false) (by simp (maxDischargeDepth := 16) [zT, slot_eq, slot_ne, hlen]) ?_
  refine CW.seqK fun K2 hK2 => ?_
  refine CW.seqK fun K3 hK3 => CW.region ?_
  have yes : w = bTrue ∨ w = bFalse → ∀ tm : List AV, tm.length = 37 → slot tm 1 = .ptr σ.length 0 → slot tm 2 = .ptr (σ.length + 1) 0 → slot tm 22 = .lit (.bool true) → K2 tm σ3 := by
   intro hyes tm hlen h1 h2 h22
   refine hK2 _ _ ?_
   refine CW.cond (t := true) (by simp (maxDischargeDepth := 16) [zT, slot_eq, slot_ne, hlen, h22]) ?_
   refine CW.seqK fun K4 hK4 => CW.region ?_
   simp (maxDischargeDepth := 16) [symB, List.length_set, andThen, hlen, h1, h2, hnd3, hvl3, bs_list, hbt]
   refine hK4 _ _ ?_
   refine CW.ret ?_
   simp only [andThen, outOf]
   have hwv : wordV w = (.mk 2 false [] (w == bTrue) [] [], true) := by unfold wordV; rw [hno]; dsimp only; rw [if_pos hyes]
   refine hR0 _ _ _ ⟨.tup [aggV (wordV w).1 .full .full, .lit (.bool (wordV w).2)], ?_, ⟨.full, .full, rfl⟩, hxx3.set (by omega)⟩
   rw [hwv]
   simp (maxDischargeDepth := 16) [zA, omap, zB, zC, slot_eq, slot_ne, hlen, h2, hl3, partA, aggT, aggV, rowsV, bs, d32]
  by_cases hwt : w = bTrue
  · simp (maxDischargeDepth := 16) [symB, List.length_set, andThen, hlen, hnd3, bs_list, hbt, hwt]
    refine hK3 _ _ ?_
    refine CW.cond (t := true) (by simp (maxDischargeDepth := 16) [zT, slot_eq, slot_ne, hlen]) ?_
    refine CW.skip ?_
    simp only [andThen]
    exact yes (.inl hwt) _ (by simp [hlen]) (by simp (maxDischargeDepth := 16) [slot_eq, slot_ne, hlen]) (by simp (maxDischargeDepth := 16) [slot_eq, slot_ne, hlen]) (by simp (maxDischargeDepth := 16) [slot_eq, slot_ne, hlen])
  · simp (maxDischargeDepth := 16) [symB, List.length_set, andThen, hlen, hnd3, bs_list, hbt, hwt]
    refine hK3 _ _ ?_
    refine CW.cond (t := false) (by simp (maxDischargeDepth := 16) [zT, slot_eq, slot_ne, hlen, hwt]) ?_
    refine CW.region ?_
    rcases Classical.em (w = bFalse) with hwf | hwf
    · simp (maxDischargeDepth := 16) [symB, List.length_set, andThen, hlen, hnd3, bs_list, hbf, hwf]
      exact yes (.inr hwf) _ (by simp [hlen]) (by simp (maxDischargeDepth := 16) [slot_eq, slot_ne, hlen]) (by simp (maxDischargeDepth := 16) [slot_eq, slot_ne, hlen]) (by simp (maxDischargeDepth := 16) [slot_eq, slot_ne, hlen])
    · simp (maxDischargeDepth := 16) [symB, List.length_set, andThen, hlen, hnd3, bs_list, hbf, hwf]
      refine hK2 _ _ ?_
      refine CW.cond (t := false) (by simp (maxDischargeDepth := 16) [zT, slot_eq, slot_ne, hlen, hwf]) ?_
      refine CW.skip ?_
      simp only [andThen, outOf]
      refine hK _ _ ?_
      refine CW.seqK fun K4 hK4 => CW.region ?_
      simp (maxDischargeDepth := 16) [symB, List.length_set, andThen, hlen, hvl3]
      refine hK4 _ _ ?_
      have hwv : wordV w = (zeroV, false) := by unfold wordV; rw [hno]; dsimp only; rw [if_neg (by simp [hwt, hwf])]
      refine CW.ret (hR0 _ _ _ ⟨.tup [aggV (wordV w).1 .full .full, .lit (.bool (wordV w).2)], ?_, ⟨.full, .full, rfl⟩, hxx3.set (by omega)⟩)
      rw [hwv]
      simp (maxDischargeDepth := 16) [zA, omap, zB, zC, slot_eq, slot_ne, hlen, hl3, partA, aggT, aggV, rowsV, bs, d32, zeroV]
end
end Go.Proofs.YtmmgjaheffbpaaaGreatDoor
