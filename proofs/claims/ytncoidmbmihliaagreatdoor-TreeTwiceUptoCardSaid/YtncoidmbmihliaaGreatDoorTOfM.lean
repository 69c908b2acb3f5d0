/-
  EV: the statements' numbers 1 and 3: whetstoneref02.Of, and what it calls.
-/
import Derived.Test.YtncoidmbmihliaaGreatDoorTFree2M
import Derived.Test.YtncoidmbmihliaaGreatDoorKOfM
namespace Go.Proofs.YtncoidmbmihliaaGreatDoor
set_option linter.unusedSimpArgs false
set_option linter.unusedVariables false
section
open Go.RowKit

variable {S : Sp} {N : Nat}
abbrev One (k : Int) : Prop := k = 1 ∨ k = 3
abbrev b1 (k : Int) : AV := .sl [[.lit (.int .u8 k)]] .no
abbrev u1 (k : Int) : AV := .sl (limR [k]) .no
abbrev trim1F : FS := smF (fun k => [b1 k]) b1 One (fun _ => 0) 0
abbrev plus1F : FS := smF (fun k => [.sl [] .no, b1 k]) b1 One (fun _ => 0) 1
abbrev read1F : FS := smF (fun k => [u1 k]) b1 One (fun _ => 0) 2
abbrev write1F : FS := smF (fun k => [b1 k]) u1 One (fun _ => 0) 0
abbrev Trim1F : FS := smF (fun k => [u1 k]) u1 One (fun _ => 0) 3
abbrev of1F : FS := smF (fun k => [.lit (.bool false), u1 k]) (fun k => .agg [.lit (.bool false), u1 k]) One (fun _ => 0) 4
abbrev Of1F : FS := smF (fun k => [.lit (.int .i64 k)]) (fun k => .agg [.lit (.bool false), u1 k]) One (fun _ => 0) 5
theorem b1_inj (a b : Int) (e : [b1 a] = [b1 b]) : a = b := by simpa using e
theorem nb1_inj (a b : Int) (e : [AV.sl [] .no, b1 a] = [.sl [] .no, b1 b]) : a = b := by simpa using e
theorem u1_inj (a b : Int) (e : [u1 a] = [u1 b]) : a = b := by simpa [limR] using e
theorem fu1_inj (a b : Int) (e : [AV.lit (.bool false), u1 a] = [.lit (.bool false), u1 b]) : a = b := by simpa [limR] using e
theorem k1_inj (a b : Int) (e : [AV.lit (.int .i64 a)] = [AV.lit (.int .i64 b)]) : a = b := by simpa using e

set_option maxRecDepth 100000 in
theorem trim1_w (hc : S.code = codeP Tryz.prog) (hm : S.ms 155 = []) : SmOk Tryz.prog S N 155 (fun k => [b1 k]) b1 One (fun _ => 0) 0 := by
  intro k σ hk hN
  refine JC.startF (fn := Tryz.f155) (codeOf hc Tryz.func155 rfl (by kernel_rfl)) rfl hm rfl (Nat.le_of_ble_eq_true rfl) fun tm => ?_
  refine CW.hide fun R0 hR0 => ?_
  have h0 : k ≠ 0 := by rcases hk with rfl | rfl <;> decide
  have hw : IntKind.i64.wrap 0 = 0 := rfl
  refine CW.seqK fun K hK => CW.region ?_
  simp (maxDischargeDepth := 16) [symX, List.length_set]
  refine hK _ _ ?_; clear hK K
  refine CW.seqK fun K hK => CW.block (CW.hide fun R hR => ?_)
  refine CW.loop (CW.hide fun R2 hR2 => CW.seqK fun K4 hK4 => CW.seqK fun K5 hK5 => CW.region ?_)
  simp (maxDischargeDepth := 16) [symX, List.length_set, h0, hw]
  refine hK5 _ _ ?_
  refine CW.cond (t := false) (by simp [evx_tmp, symF, lk, h0]) ?_
  refine CW.exit (hR2 _ _ _ (hR _ _ _ ?_))
  simp only [outOf, if_true, andThen]
  refine hK _ _ ?_
  refine CW.seqK fun K hK => CW.region ?_
  simp (maxDischargeDepth := 16) [symX, List.length_set]
  refine hK _ _ ?_; clear hK K
  exact CW.ret (hR0 _ _ _ ⟨b1 k, by simp [resultsA, omap, res_tmp, symF, lk], done0 rfl rfl⟩)

set_option maxRecDepth 100000 in
theorem plus1_w (hc : S.code = codeP Tryz.prog) (hm : S.ms 151 = []) (h1 : S.sp 155 = some trim1F) : SmOk Tryz.prog S N 151 (fun k => [.sl [] .no, b1 k]) b1 One (fun _ => 0) 1 := by
  intro k σ hk hN
  refine JC.startF (fn := Tryz.f151) (codeOf hc Tryz.func151 rfl (by kernel_rfl)) rfl hm rfl (Nat.le_of_ble_eq_true rfl) fun tm => ?_
  refine CW.hide fun R0 hR0 => ?_
  have hw : IntKind.i64.wrap 1 = 1 := rfl
  have w1 : IntKind.u8.wrap (0 + k) = k := by rcases hk with rfl | rfl <;> rfl
  have w1' : IntKind.u8.wrap k = k := by rcases hk with rfl | rfl <;> rfl
  have w2 : k.tmod 10 = k := by rcases hk with rfl | rfl <;> rfl
  have w0 : IntKind.u8.wrap 0 = 0 := rfl
  have w3 : IntKind.u8.wrap (k.tdiv 10) = 0 := by rcases hk with rfl | rfl <;> rfl
  have w4 : k.tdiv 10 = 0 := by rcases hk with rfl | rfl <;> rfl
  obtain ⟨tok', g', acc, hA', hap⟩ := apd (P := Tryz.prog) (M := []) (σ := σ) (g := []) (t := 187) (e := 5) (k := 0) (by_ := 1) [] [[.lit (.int .u8 k)]] (Apd.nil σ _ []) (by kernel_rfl) (by kernel_rfl) (by kernel_rfl) (by kernel_rfl) rfl rfl (by simp) (by simp) (by simp)
  simp only [List.append_nil] at hap
  refine CW.seqK fun K hK => CW.region ?_
  simp (maxDischargeDepth := 16) [symX, List.length_set]
  refine hK _ _ ?_; clear hK K
  refine CW.seqK fun K hK => CW.region ?_
  simp (maxDischargeDepth := 16) [symX, List.length_set]
  refine hK _ _ ?_; clear hK K
  refine CW.seqK fun K hK => CW.region ?_
  simp (maxDischargeDepth := 16) [symX, List.length_set]
  refine hK _ _ ?_; clear hK K
  refine CW.seqK fun K hK => ?_
  refine CW.seqK fun K hK => CW.region ?_
  simp (maxDischargeDepth := 16) [symX, List.length_set]
  refine hK _ _ ?_; clear hK K
  refine CW.block (CW.hide fun R hR => ?_)
  refine CW.loop (CW.hide fun R2 hR2 => CW.seqK fun K4 hK4 => CW.seqK fun K5 hK5 => CW.region ?_)
  simp (maxDischargeDepth := 16) [symX, List.length_set]
  refine hK5 _ _ ?_
  refine CW.cond (t := true) (by simp [evx_tmp, symF, lk]) ?_
  refine CW.skip (hK4 _ _ ?_)
  refine CW.seqK fun K6 hK6 => CW.block ?_
  refine CW.seqK fun K hK => CW.region ?_
  simp (maxDischargeDepth := 16) [symX, List.length_set]
  refine hK _ _ ?_; clear hK K
  refine CW.seqK fun K7 hK7 => ?_
  refine CW.seqK fun K hK => CW.region ?_
  simp (maxDischargeDepth := 16) [symX, List.length_set]
  refine hK _ _ ?_; clear hK K
  refine CW.cond (t := false) (by simp [evx_tmp, symF, lk]) ?_
  refine CW.skip (hK7 _ _ ?_); clear hK7 K7
  refine CW.seqK fun K7 hK7 => ?_
  refine CW.seqK fun K hK => CW.region ?_
  simp (maxDischargeDepth := 16) [symX, List.length_set]
  refine hK _ _ ?_; clear hK K
  refine CW.cond (t := true) (by simp [evx_tmp, symF, lk]) ?_
  refine CW.region ?_
  simp (maxDischargeDepth := 16) [symX, List.length_set, w1, w1']
  refine hK7 _ _ ?_; clear hK7 K7
  refine CW.seqK fun K7 hK7 => CW.region ?_
  simp (maxDischargeDepth := 16) [symX, List.length_set, w2, hap]
  refine hK7 _ _ ?_
  refine CW.region ?_
  simp (maxDischargeDepth := 16) [symX, List.length_set, w3, w4, w0]
  refine hK6 _ _ ?_
  refine CW.region ?_
  simp (maxDischargeDepth := 16) [symX, List.length_set, hw]
  refine hR2 _ _ _ ?_
  show CW _ _ _ _ _ _ _
  refine CW.keep [0, 1, 4, 5, 6, 7] fun tm => ?_
  simp only [symX]
  refine CW.loop (CW.hide fun R3 hR3 => CW.seqK fun K8 hK8 => CW.seqK fun K9 hK9 => CW.region ?_)
  simp (maxDischargeDepth := 16) [symX, List.length_set]
  refine hK9 _ _ ?_
  refine CW.cond (t := false) (by simp [evx_tmp, symF, lk]) ?_
  refine CW.exit (hR3 _ _ _ (hR _ _ _ ?_))
  simp only [outOf, if_true, andThen]
  refine hK _ _ ?_
  refine CW.seqK fun K hK => CW.region ?_
  simp (maxDischargeDepth := 16) [symX, List.length_set]
  refine call_sm k h1 b1_inj (by simp [nrmR, AV.nrm, nrmRR]) hk (by omega) fun _ => ?_
  simp (maxDischargeDepth := 16) [symX, List.length_set]
  refine hK _ _ (CW.ret (hR0 _ _ _ ⟨b1 k, by simp [resultsA, omap, res_tmp, symF, lk], done rfl rfl⟩))

set_option maxRecDepth 100000 in
theorem read1_w (hc : S.code = codeP Tryz.prog) (hm : S.ms 142 = []) (h1 : S.sp 151 = some plus1F) : SmOk Tryz.prog S N 142 (fun k => [u1 k]) b1 One (fun _ => 0) 2 := by
  intro k σ hk hN
  refine JC.startF (fn := Tryz.f142) (codeOf hc Tryz.func142 rfl (by kernel_rfl)) rfl hm rfl (Nat.le_of_ble_eq_true rfl) fun tm => ?_
  refine CW.hide fun R0 hR0 => ?_
  have hw : IntKind.i64.wrap 0 = 0 := rfl
  have hw1 : IntKind.i64.wrap (-1) = -1 := rfl
  have w1 : IntKind.u8.wrap k = k := by rcases hk with rfl | rfl <;> rfl
  have w2 : k.tmod 10 = k := by rcases hk with rfl | rfl <;> rfl
  have w3 : k.tdiv 10 = 0 := by rcases hk with rfl | rfl <;> rfl
  have w4 : IntKind.u32.wrap 0 = 0 := rfl
  have w5 : k > 0 := by rcases hk with rfl | rfl <;> decide
  obtain ⟨tok', g', acc, hA', hap⟩ := apd (P := Tryz.prog) (M := []) (σ := σ) (g := []) (t := 187) (e := 5) (k := 0) (by_ := 1) [] [[.lit (.int .u8 k)]] (Apd.nil σ _ []) (by kernel_rfl) (by kernel_rfl) (by kernel_rfl) (by kernel_rfl) rfl rfl (by simp) (by simp) (by simp)
  simp only [List.append_nil] at hap
  simp only [u1, limR, List.map_cons, List.map_nil]
  refine CW.seqK fun K hK => CW.region ?_
  simp (maxDischargeDepth := 16) [symX, List.length_set]
  refine hK _ _ ?_; clear hK K
  refine CW.seqK fun K hK => CW.region ?_
  simp (maxDischargeDepth := 16) [symX, List.length_set]
  refine hK _ _ ?_; clear hK K
  refine CW.seqK fun K hK => ?_
  refine CW.seqK fun K hK => CW.region ?_
  simp (maxDischargeDepth := 16) [symX, List.length_set, hw]
  refine hK _ _ ?_; clear hK K
  refine CW.block (CW.hide fun R hR => ?_)
  refine CW.loop (CW.hide fun R2 hR2 => CW.seqK fun K4 hK4 => CW.seqK fun K5 hK5 => CW.region ?_)
  simp (maxDischargeDepth := 16) [symX, List.length_set]
  refine hK5 _ _ ?_
  refine CW.cond (t := true) (by simp [evx_tmp, symF, lk]) ?_
  refine CW.skip (hK4 _ _ ?_)
  refine CW.seqK fun K6 hK6 => CW.block ?_
  refine CW.seqK fun K7 hK7 => ?_
  refine CW.seqK fun K hK => CW.region ?_
  simp (maxDischargeDepth := 16) [symX, List.length_set]
  refine hK _ _ ?_; clear hK K
  refine CW.cond (t := false) (by simp [evx_tmp, symF, lk]) ?_
  refine CW.skip (hK7 _ _ ?_); clear hK7 K7
  refine CW.seqK fun K hK => CW.region ?_
  simp (maxDischargeDepth := 16) [symX, List.length_set]
  refine hK _ _ ?_; clear hK K
  refine CW.seqK fun K7 hK7 => ?_
  refine CW.seqK fun K hK => CW.region ?_
  simp (maxDischargeDepth := 16) [symX, List.length_set]
  refine hK _ _ ?_; clear hK K
  refine CW.block (CW.hide fun RR hRR => ?_)
  refine CW.loop (CW.hide fun R3 hR3 => CW.seqK fun K8 hK8 => CW.seqK fun K9 hK9 => CW.region ?_)
  simp (maxDischargeDepth := 16) [symX, List.length_set, w5]
  refine hK9 _ _ ?_
  refine CW.cond (t := true) (by simp [evx_tmp, symF, lk, w5]) ?_
  refine CW.skip (hK8 _ _ ?_)
  refine CW.seqK fun K10 hK10 => CW.block ?_
  refine CW.region ?_
  simp (maxDischargeDepth := 16) [symX, List.length_set, w2, w1, hap]
  refine hK10 _ _ ?_
  refine CW.region ?_
  simp (maxDischargeDepth := 16) [symX, List.length_set, w3, w4]
  refine hR3 _ _ _ ?_
  show CW _ _ _ _ _ _ _
  refine CW.loop (CW.hide fun R4 hR4 => CW.seqK fun K11 hK11 => CW.seqK fun K12 hK12 => CW.region ?_)
  simp (maxDischargeDepth := 16) [symX, List.length_set]
  refine hK12 _ _ ?_
  refine CW.cond (t := false) (by simp [evx_tmp, symF, lk]) ?_
  refine CW.exit (hR4 _ _ _ (hRR _ _ _ ?_))
  simp only [outOf, if_true, andThen]
  refine hK7 _ _ ?_
  refine CW.region ?_
  simp (maxDischargeDepth := 16) [symX, List.length_set]
  refine call_sm k h1 nb1_inj (by simp [nrmR, AV.nrm, nrmRR]) hk (by omega) fun _ => ?_
  simp (maxDischargeDepth := 16) [symX, List.length_set]
  refine hK6 _ _ ?_
  refine CW.region ?_
  simp (maxDischargeDepth := 16) [symX, List.length_set, hw1]
  refine hR2 _ _ _ ?_
  show CW _ _ _ _ _ _ _
  refine CW.loop (CW.hide fun R4 hR4 => CW.seqK fun K11 hK11 => CW.seqK fun K12 hK12 => CW.region ?_)
  simp (maxDischargeDepth := 16) [symX, List.length_set]
  refine hK12 _ _ ?_
  refine CW.cond (t := false) (by simp [evx_tmp, symF, lk]) ?_
  refine CW.exit (hR4 _ _ _ (hR _ _ _ ?_))
  simp only [outOf, if_true, andThen]
  refine hK _ _ ?_
  refine CW.seqK fun K hK => CW.region ?_
  simp (maxDischargeDepth := 16) [symX, List.length_set]
  refine hK _ _ ?_; clear hK K
  exact CW.ret (hR0 _ _ _ ⟨b1 k, by simp [resultsA, omap, res_tmp, symF, lk], done rfl rfl⟩)

set_option maxRecDepth 100000 in
theorem write1_w (hc : S.code = codeP Tryz.prog) (hm : S.ms 141 = []) : SmOk Tryz.prog S N 141 (fun k => [b1 k]) u1 One (fun _ => 0) 0 := by
  intro k σ hk hN
  refine JC.startF (fn := Tryz.f141) (codeOf hc Tryz.func141 rfl (by kernel_rfl)) rfl hm rfl (Nat.le_of_ble_eq_true rfl) fun tm => ?_
  refine CW.hide fun R0 hR0 => ?_
  have hw : IntKind.i64.wrap 0 = 0 := rfl
  have hw1 : IntKind.i64.wrap (-1) = -1 := rfl
  have hw9 : IntKind.i64.wrap 9 = 9 := rfl
  have w1 : IntKind.u32.wrap k = k := by rcases hk with rfl | rfl <;> rfl
  have w0 : IntKind.u32.wrap 0 = 0 := rfl
  obtain ⟨tok', g', acc, hA', hap⟩ := apd (P := Tryz.prog) (M := []) (σ := σ) (g := []) (t := 26) (e := 111) (k := 0) (by_ := 4) [] [[.lit (.int .u32 k)]] (Apd.nil σ _ []) (by kernel_rfl) (by kernel_rfl) (by kernel_rfl) (by kernel_rfl) rfl rfl (by simp) (by simp) (by simp)
  simp only [List.append_nil] at hap
  simp only [u1, limR, List.map_cons, List.map_nil]
  refine CW.seqK fun K hK => CW.region ?_
  simp (maxDischargeDepth := 16) [symX, List.length_set]
  refine hK _ _ ?_; clear hK K
  refine CW.seqK fun K hK => CW.region ?_
  simp (maxDischargeDepth := 16) [symX, List.length_set]
  refine hK _ _ ?_; clear hK K
  refine CW.seqK fun K hK => ?_
  refine CW.seqK fun K hK => CW.region ?_
  simp (maxDischargeDepth := 16) [symX, List.length_set]
  refine hK _ _ ?_; clear hK K
  refine CW.block (CW.hide fun R hR => ?_)
  refine CW.loop (CW.hide fun R2 hR2 => CW.seqK fun K4 hK4 => CW.seqK fun K5 hK5 => CW.region ?_)
  simp (maxDischargeDepth := 16) [symX, List.length_set]
  refine hK5 _ _ ?_
  refine CW.cond (t := true) (by simp [evx_tmp, symF, lk]) ?_
  refine CW.skip (hK4 _ _ ?_)
  refine CW.seqK fun K6 hK6 => CW.block ?_
  refine CW.seqK fun K hK => CW.region ?_
  simp (maxDischargeDepth := 16) [symX, List.length_set]
  refine hK _ _ ?_; clear hK K
  refine CW.seqK fun K7 hK7 => ?_
  refine CW.seqK fun K hK => CW.region ?_
  simp (maxDischargeDepth := 16) [symX, List.length_set, es_min, hw9, hw]
  refine hK _ _ ?_; clear hK K
  refine CW.block (CW.hide fun RR hRR => ?_)
  refine CW.loop (CW.hide fun R3 hR3 => CW.seqK fun K8 hK8 => CW.seqK fun K9 hK9 => CW.region ?_)
  simp (maxDischargeDepth := 16) [symX, List.length_set]
  refine hK9 _ _ ?_
  refine CW.cond (t := true) (by simp [evx_tmp, symF, lk]) ?_
  refine CW.skip (hK8 _ _ ?_)
  refine CW.seqK fun K10 hK10 => CW.block ?_
  refine CW.region ?_
  simp (maxDischargeDepth := 16) [symX, List.length_set, w1, w0]
  refine hK10 _ _ ?_
  refine CW.region ?_
  simp (maxDischargeDepth := 16) [symX, List.length_set, hw1]
  refine hR3 _ _ _ ?_
  show CW _ _ _ _ _ _ _
  refine CW.loop (CW.hide fun R4 hR4 => CW.seqK fun K11 hK11 => CW.seqK fun K12 hK12 => CW.region ?_)
  simp (maxDischargeDepth := 16) [symX, List.length_set]
  refine hK12 _ _ ?_
  refine CW.cond (t := false) (by simp [evx_tmp, symF, lk]) ?_
  refine CW.exit (hR4 _ _ _ (hRR _ _ _ ?_))
  simp only [outOf, if_true, andThen]
  refine hK7 _ _ ?_
  refine CW.region ?_
  simp (maxDischargeDepth := 16) [symX, List.length_set, hap]
  refine hK6 _ _ ?_
  refine CW.region ?_
  simp (maxDischargeDepth := 16) [symX, List.length_set, hw9]
  refine hR2 _ _ _ ?_
  show CW _ _ _ _ _ _ _
  refine CW.loop (CW.hide fun R4 hR4 => CW.seqK fun K11 hK11 => CW.seqK fun K12 hK12 => CW.region ?_)
  simp (maxDischargeDepth := 16) [symX, List.length_set]
  refine hK12 _ _ ?_
  refine CW.cond (t := false) (by simp [evx_tmp, symF, lk]) ?_
  refine CW.exit (hR4 _ _ _ (hR _ _ _ ?_))
  simp only [outOf, if_true, andThen]
  refine hK _ _ ?_
  refine CW.seqK fun K hK => CW.region ?_
  simp (maxDischargeDepth := 16) [symX, List.length_set]
  refine hK _ _ ?_; clear hK K
  exact CW.ret (hR0 _ _ _ ⟨.sl [[.lit (.int .u32 k)]] tok', by simp [resultsA, omap, res_tmp, symF, lk], done rfl rfl⟩)

set_option maxRecDepth 100000 in
theorem Trim1_w (hc : S.code = codeP Tryz.prog) (hm : S.ms 123 = []) (h1 : S.sp 142 = some read1F) (h2 : S.sp 141 = some write1F) : SmOk Tryz.prog S N 123 (fun k => [u1 k]) u1 One (fun _ => 0) 3 := by
  intro k σ hk hN
  refine JC.startF (fn := Tryz.f123) (codeOf hc Tryz.func123 rfl (by kernel_rfl)) rfl hm rfl (Nat.le_of_ble_eq_true rfl) fun tm => ?_
  refine CW.hide fun R0 hR0 => ?_
  refine CW.seqK fun K hK => CW.region ?_
  simp (maxDischargeDepth := 16) [symX, List.length_set]
  refine hK _ _ ?_; clear hK K
  refine CW.seqK fun K hK => CW.region ?_
  simp (maxDischargeDepth := 16) [symX, List.length_set]
  refine call_sm k h1 u1_inj (by simp only [nrmR, AV.nrm, limR_nrm]) hk (by omega) fun _ => ?_
  simp (maxDischargeDepth := 16) [symX, List.length_set]
  refine call_sm k h2 b1_inj (by simp [nrmR, AV.nrm, nrmRR]) hk (by omega) fun _ => ?_
  simp (maxDischargeDepth := 16) [symX, List.length_set]
  refine hK _ _ (CW.ret (hR0 _ _ _ ⟨u1 k, by simp [resultsA, omap, res_tmp, symF, lk], done0 rfl (by simp [AV.nrm, limR_nrm])⟩))

set_option maxRecDepth 100000 in
theorem of1_w (hc : S.code = codeP Tryz.prog) (hm : S.ms 93 = []) (h1 : S.sp 123 = some Trim1F) : SmOk Tryz.prog S N 93 (fun k => [.lit (.bool false), u1 k]) (fun k => .agg [.lit (.bool false), u1 k]) One (fun _ => 0) 4 := by
  intro k σ hk hN
  refine JC.startF (fn := Tryz.f93) (codeOf hc Tryz.func93 rfl (by kernel_rfl)) rfl hm rfl (Nat.le_of_ble_eq_true rfl) fun tm => ?_
  refine CW.hide fun R0 hR0 => ?_
  refine CW.seqK fun K hK => CW.region ?_
  simp (maxDischargeDepth := 16) [symX, List.length_set]
  refine hK _ _ ?_; clear hK K
  refine CW.seqK fun K hK => CW.region ?_
  simp (maxDischargeDepth := 16) [symX, List.length_set]
  refine call_sm k h1 u1_inj (by simp only [nrmR, AV.nrm, limR_nrm]) hk (by omega) fun _ => ?_
  simp (maxDischargeDepth := 16) [symX, List.length_set]
  refine hK _ _ ?_; clear hK K
  refine CW.seqK fun K hK => CW.region ?_
  simp (maxDischargeDepth := 16) [symX, List.length_set]
  refine hK _ _ ?_; clear hK K
  exact CW.ret (hR0 _ _ _ ⟨.agg [.lit (.bool false), u1 k], by simp [resultsA, omap, res_cell, symX], done (by simp [AV.pln, limR_pln, plnR]) (by simp [AV.nrm, nrmR, limR_nrm])⟩)

set_option maxRecDepth 100000 in
theorem Of1_w (hc : S.code = codeP Tryz.prog) (hm : S.ms 52 = []) (h1 : S.sp 93 = some of1F) : SmOk Tryz.prog S N 52 (fun k => [.lit (.int .i64 k)]) (fun k => .agg [.lit (.bool false), u1 k]) One (fun _ => 0) 5 := by
  intro k σ hk hN
  refine JC.startF (fn := Tryz.f52) (codeOf hc Tryz.func52 rfl (by kernel_rfl)) rfl hm rfl (Nat.le_of_ble_eq_true rfl) fun tm => ?_
  refine CW.hide fun R0 hR0 => ?_
  have w1 : IntKind.u64.wrap k = k := by rcases hk with rfl | rfl <;> rfl
  have w2 : k.tmod 1000000000 = k := by rcases hk with rfl | rfl <;> rfl
  have w3 : k.tdiv 1000000000 = 0 := by rcases hk with rfl | rfl <;> rfl
  have w4 : IntKind.u32.wrap k = k := by rcases hk with rfl | rfl <;> rfl
  have w6 : IntKind.u64.wrap 0 = 0 := rfl
  have w5 : k > 0 := by rcases hk with rfl | rfl <;> decide
  have w7 : ¬ k < 0 := by rcases hk with rfl | rfl <;> decide
  obtain ⟨tok', g', acc, hA', hap⟩ := apd (P := Tryz.prog) (M := []) (σ := σ ++ [.cells [.lit (.bool false), .sl [] .full] 28]) (g := []) (t := 26) (e := 111) (k := 0) (by_ := 4) [] [[.lit (.int .u32 k)]] (Apd.nil _ _ []) (by kernel_rfl) (by kernel_rfl) (by kernel_rfl) (by kernel_rfl) rfl rfl (by simp) (by simp) (by simp)
  simp only [List.append_nil] at hap
  refine CW.seqK fun K hK => CW.region ?_
  simp (maxDischargeDepth := 16) [symX, List.length_set]
  refine hK _ _ ?_; clear hK K
  refine CW.seqK fun K hK => CW.region ?_
  simp (maxDischargeDepth := 16) [symX, List.length_set, w1]
  refine hK _ _ ?_; clear hK K
  refine CW.seqK fun K hK => ?_
  refine CW.seqK fun K hK => CW.region ?_
  simp (maxDischargeDepth := 16) [symX, List.length_set, w7]
  refine hK _ _ ?_; clear hK K
  refine CW.cond (t := false) (by simp [evx_tmp, symF, lk, w7]) ?_
  refine CW.skip (hK _ _ ?_); clear hK K
  refine CW.seqK fun K hK => CW.region ?_
  simp (maxDischargeDepth := 16) [symX, List.length_set]
  refine hK _ _ ?_; clear hK K
  refine CW.seqK fun K hK => ?_
  refine CW.block (CW.hide fun R hR => ?_)
  refine CW.loop (CW.hide fun R2 hR2 => CW.seqK fun K4 hK4 => CW.seqK fun K5 hK5 => CW.region ?_)
  simp (maxDischargeDepth := 16) [symX, List.length_set, w5]
  refine hK5 _ _ ?_
  refine CW.cond (t := true) (by simp [evx_tmp, symF, lk, w5]) ?_
  refine CW.skip (hK4 _ _ ?_)
  refine CW.block (CW.seqK fun K6 hK6 => CW.region ?_)
  simp (maxDischargeDepth := 16) [symX, List.length_set, w2, w4, hap]
  refine hK6 _ _ ?_
  refine CW.region ?_
  simp (maxDischargeDepth := 16) [symX, List.length_set, w3, w6]
  refine hR2 _ _ _ ?_
  show CW _ _ _ _ _ _ _
  refine CW.loop (CW.hide fun R4 hR4 => CW.seqK fun K11 hK11 => CW.seqK fun K12 hK12 => CW.region ?_)
  simp (maxDischargeDepth := 16) [symX, List.length_set]
  refine hK12 _ _ ?_
  refine CW.cond (t := false) (by simp [evx_tmp, symF, lk]) ?_
  refine CW.exit (hR4 _ _ _ (hR _ _ _ ?_))
  simp only [outOf, if_true, andThen]
  refine hK _ _ ?_
  refine CW.seqK fun K hK => CW.region ?_
  simp (maxDischargeDepth := 16) [symX, List.length_set, w7]
  refine call_sm k h1 fu1_inj (by simp [nrmR, AV.nrm, limR, nrmRR]) hk (by omega) fun _ => ?_
  simp (maxDischargeDepth := 16) [symX, List.length_set]
  refine hK _ _ (CW.ret (hR0 _ _ _ ⟨.agg [.lit (.bool false), u1 k], by simp [resultsA, omap, res_cell, symX], done (by simp [AV.pln, limR_pln, plnR]) (by simp [AV.nrm, nrmR, limR_nrm])⟩))

end
section
open Go.RowKit

variable {S : Sp} {N : Nat}
abbrev tInt : ByteArray := ⟨#[105, 110, 116]⟩
abbrev tAdd : ByteArray := ⟨#[97, 100, 100]⟩
abbrev tX : ByteArray := ⟨#[120]⟩
abbrev tY : ByteArray := ⟨#[121]⟩
abbrev aV (nm : ByteArray) : Atm := .mk 1 nm false [] false
abbrev aN (k : Int) : Atm := .mk 2 ⟨#[]⟩ false [k] false
abbrev tYes : Trm := .mk 3 ⟨#[]⟩ false [] []
abbrev yBase (st : ByteArray) (t : Trm) : Ty := .mk false st t [] []
abbrev rAdd (a b : Atm) : Rhs := .mk 2 tAdd [a, b] [] [] [] []
abbrev eRet (a : Atm) : Exp := .mk 2 ⟨#[]⟩ [] [] a [] []
abbrev eLet (nm : ByteArray) (t : Ty) (r : Rhs) (e : Exp) : Exp := .mk 1 nm [t] [r] (.mk 0 ⟨#[]⟩ false [] false) [] [e]
abbrev lvF : FS := smF (fun nm : ByteArray => [.lit (.string nm)]) (fun nm => .agg (aV nm).cs) (fun _ => True) (fun _ => 0) 0
abbrev lnF : FS := smF (fun k : Int => [.lit (.int .i64 k)]) (fun k => .agg (aN k).cs) One (fun _ => 0) 6
abbrev lyesF : FS := smF (fun _ : Unit => []) (fun _ => .agg tYes.cs) (fun _ => True) (fun _ => 0) 0
abbrev lbaseF : FS := smF (fun p : ByteArray × Trm => [.lit (.string p.1), .agg p.2.cs]) (fun p => .agg (yBase p.1 p.2).cs) (fun _ => True) (fun _ => 0) 0
abbrev laddF : FS := smF (fun p : Atm × Atm => [.agg p.1.cs, .agg p.2.cs]) (fun p => .agg (rAdd p.1 p.2).cs) (fun _ => True) (fun _ => 0) 0
abbrev lretF : FS := smF (fun a : Atm => [.agg a.cs]) (fun a => .agg (eRet a).cs) (fun _ => True) (fun _ => 0) 0
abbrev lletF : FS := smF (fun p : ByteArray × Ty × Rhs × Exp => [.lit (.string p.1), .agg p.2.1.cs, .agg p.2.2.1.cs, .agg p.2.2.2.cs]) (fun p => .agg (eLet p.1 p.2.1 p.2.2.1 p.2.2.2).cs) (fun _ => True) (fun _ => 0) 0
abbrev lgreatF : FS := smF (fun l : List Exp => [.sl (expR l) .no]) (fun l => .lit (.bool (decide (expsGo l 2000 0 > 2000)))) (fun l => l.length ≤ 140737488355328 ∧ expSm l) expN 8
theorem lv_inj (a b : ByteArray) (e : [AV.lit (.string a)] = [AV.lit (.string b)]) : a = b := by simpa using e
theorem lyes_inj (a b : Unit) (e : ([] : List AV) = []) : a = b := rfl
theorem lbase_inj (a b : ByteArray × Trm) (e : [AV.lit (.string a.1), .agg a.2.cs] = [AV.lit (.string b.1), .agg b.2.cs]) : a = b := by
  obtain ⟨a1, a2⟩ := a; obtain ⟨b1, b2⟩ := b
  simp only [List.cons.injEq, AV.lit.injEq, Value.string.injEq, AV.agg.injEq, and_true] at e
  rw [e.1, Trm.inj e.2]
theorem ladd_inj (a b : Atm × Atm) (e : [AV.agg a.1.cs, .agg a.2.cs] = [AV.agg b.1.cs, .agg b.2.cs]) : a = b := by
  obtain ⟨a1, a2⟩ := a; obtain ⟨b1, b2⟩ := b
  simp only [List.cons.injEq, AV.agg.injEq, and_true] at e
  rw [Atm.inj e.1, Atm.inj e.2]
theorem lret_inj (a b : Atm) (e : [AV.agg a.cs] = [AV.agg b.cs]) : a = b := by
  simp only [List.cons.injEq, AV.agg.injEq, and_true] at e
  exact Atm.inj e
theorem llet_inj (a b : ByteArray × Ty × Rhs × Exp) (e : [AV.lit (.string a.1), .agg a.2.1.cs, .agg a.2.2.1.cs, .agg a.2.2.2.cs] = [AV.lit (.string b.1), .agg b.2.1.cs, .agg b.2.2.1.cs, .agg b.2.2.2.cs]) : a = b := by
  obtain ⟨a1, a2, a3, a4⟩ := a; obtain ⟨b1, b2, b3, b4⟩ := b
  simp only [List.cons.injEq, AV.lit.injEq, Value.string.injEq, AV.agg.injEq, and_true] at e
  rw [e.1, Ty.inj e.2.1, Rhs.inj e.2.2.1, Exp.inj e.2.2.2]
theorem lgreat_inj (a b : List Exp) (e : [AV.sl (expR a) .no] = [AV.sl (expR b) .no]) : a = b := by
  simp only [List.cons.injEq, AV.sl.injEq, and_true] at e
  exact expR_inj e

set_option maxRecDepth 100000 in
theorem lv_w (hc : S.code = codeP Tryz.prog) (hm : S.ms 9 = []) : SmOk Tryz.prog S N 9 (fun nm : ByteArray => [.lit (.string nm)]) (fun nm => .agg (aV nm).cs) (fun _ => True) (fun _ => 0) 0 := by
  intro nm σ hk hN
  refine JC.startF (fn := Tryz.f9) (codeOf hc Tryz.func9 rfl (by kernel_rfl)) rfl hm rfl (Nat.le_of_ble_eq_true rfl) fun tm => ?_
  refine CW.hide fun R0 hR0 => ?_
  refine CW.seqK fun K hK => CW.region ?_
  simp (maxDischargeDepth := 16) [symX, List.length_set]
  refine hK _ _ ?_; clear hK K
  refine CW.seqK fun K hK => CW.region ?_
  simp (maxDischargeDepth := 16) [symX, List.length_set]
  refine hK _ _ ?_; clear hK K
  exact CW.ret (hR0 _ _ _ ⟨.agg [.lit (.int .u8 1), .lit (.string nm), .lit (.bool false), .sl [] .full, .lit (.bool false)], by simp [resultsA, omap, res_cell, symX], done rfl rfl⟩)

set_option maxRecDepth 100000 in
theorem ln_w (hc : S.code = codeP Tryz.prog) (hm : S.ms 19 = []) (h1 : S.sp 52 = some Of1F) : SmOk Tryz.prog S N 19 (fun k : Int => [.lit (.int .i64 k)]) (fun k => .agg (aN k).cs) One (fun _ => 0) 6 := by
  intro k σ hk hN
  refine JC.startF (fn := Tryz.f19) (codeOf hc Tryz.func19 rfl (by kernel_rfl)) rfl hm rfl (Nat.le_of_ble_eq_true rfl) fun tm => ?_
  refine CW.hide fun R0 hR0 => ?_
  refine CW.seqK fun K hK => CW.region ?_
  simp (maxDischargeDepth := 16) [symX, List.length_set]
  refine hK _ _ ?_; clear hK K
  refine CW.seqK fun K hK => CW.region ?_
  simp (maxDischargeDepth := 16) [symX, List.length_set]
  refine call_sm k h1 k1_inj (by simp [nrmR, AV.nrm]) hk (by omega) fun _ => ?_
  simp (maxDischargeDepth := 16) [symX, List.length_set]
  refine hK _ _ (CW.ret (hR0 _ _ _ ⟨.agg [.lit (.int .u8 2), .lit (.string ⟨#[]⟩), .lit (.bool false), u1 k, .lit (.bool false)], by simp [resultsA, omap, res_cell, symX], done (by simp [AV.pln, limR_pln, plnR]) (by simp [AV.nrm, nrmR, limR_nrm, Atm.cs])⟩))

set_option maxRecDepth 100000 in
theorem lyes_w (hc : S.code = codeP Tryz.prog) (hm : S.ms 17 = []) : SmOk Tryz.prog S N 17 (fun _ : Unit => []) (fun _ => .agg tYes.cs) (fun _ => True) (fun _ => 0) 0 := by
  intro _ σ hk hN
  refine JC.startF (fn := Tryz.f17) (codeOf hc Tryz.func17 rfl (by kernel_rfl)) rfl hm rfl (Nat.le_of_ble_eq_true rfl) fun tm => ?_
  refine CW.hide fun R0 hR0 => ?_
  refine CW.seqK fun K hK => CW.region ?_
  simp (maxDischargeDepth := 16) [symX, List.length_set]
  refine hK _ _ ?_; clear hK K
  refine CW.seqK fun K hK => CW.region ?_
  simp (maxDischargeDepth := 16) [symX, List.length_set]
  refine hK _ _ ?_; clear hK K
  exact CW.ret (hR0 _ _ _ ⟨.agg [.lit (.int .u8 3), .lit (.string ⟨#[]⟩), .lit (.bool false), .sl [] .full, .sl [] .full], by simp [resultsA, omap, res_cell, symX], done rfl rfl⟩)

set_option maxRecDepth 100000 in
theorem lbase_w (hc : S.code = codeP Tryz.prog) (hm : S.ms 16 = []) : SmOk Tryz.prog S N 16 (fun p : ByteArray × Trm => [.lit (.string p.1), .agg p.2.cs]) (fun p => .agg (yBase p.1 p.2).cs) (fun _ => True) (fun _ => 0) 0 := by
  rintro ⟨st, ⟨k, nm, ng, dg, ks⟩⟩ σ hk hN
  refine JC.startF (fn := Tryz.f16) (codeOf hc Tryz.func16 rfl (by kernel_rfl)) rfl hm rfl (Nat.le_of_ble_eq_true rfl) fun tm => ?_
  refine CW.hide fun R0 hR0 => ?_
  simp only [Trm.cs]
  refine CW.seqK fun K hK => CW.region ?_
  simp (maxDischargeDepth := 16) [symX, List.length_set]
  refine hK _ _ ?_; clear hK K
  refine CW.seqK fun K hK => CW.region ?_
  simp (maxDischargeDepth := 16) [symX, List.length_set]
  refine hK _ _ ?_; clear hK K
  exact CW.ret (hR0 _ _ _ ⟨.agg [.lit (.bool false), .lit (.string st), .lit (.int .u8 k), .lit (.string nm), .lit (.bool ng), .sl (limR dg) .no, .sl (trmR ks) .no, .sl [] .full, .sl [] .full], by simp [resultsA, omap, res_cell, symX], done (by simp [AV.pln, limR_pln, trmR_pln, plnR, plnRR]) (by simp [AV.nrm, nrmR, nrmRR, limR_nrm, trmR_nrm, Ty.cs, prmR, tyR])⟩)

set_option maxRecDepth 100000 in
theorem ladd_w (hc : S.code = codeP Tryz.prog) (hm : S.ms 18 = []) : SmOk Tryz.prog S N 18 (fun p : Atm × Atm => [.agg p.1.cs, .agg p.2.cs]) (fun p => .agg (rAdd p.1 p.2).cs) (fun _ => True) (fun _ => 0) 0 := by
  rintro ⟨⟨k, nm, ng, dg, tr⟩, ⟨k2, nm2, ng2, dg2, tr2⟩⟩ σ hk hN
  refine JC.startF (fn := Tryz.f18) (codeOf hc Tryz.func18 rfl (by kernel_rfl)) rfl hm rfl (Nat.le_of_ble_eq_true rfl) fun tm => ?_
  refine CW.hide fun R0 hR0 => ?_
  simp only [Atm.cs]
  refine CW.seqK fun K hK => CW.region ?_
  simp (maxDischargeDepth := 16) [symX, List.length_set]
  refine hK _ _ ?_; clear hK K
  refine CW.seqK fun K hK => CW.region ?_
  simp (maxDischargeDepth := 16) [symX, List.length_set]
  refine hK _ _ ?_; clear hK K
  exact CW.ret (hR0 _ _ _ ⟨.agg [.lit (.int .u8 2), .lit (.string tAdd), .sl [[.lit (.int .u8 k), .lit (.string nm), .lit (.bool ng), .sl (limR dg) .no, .lit (.bool tr)], [.lit (.int .u8 k2), .lit (.string nm2), .lit (.bool ng2), .sl (limR dg2) .no, .lit (.bool tr2)]] .full, .sl [] .full, .sl [] .full, .sl [] .full, .sl [] .full], by simp [resultsA, omap, res_cell, symX], done (by simp [AV.pln, limR_pln, plnR, plnRR]) (by simp [AV.nrm, nrmR, nrmRR, limR_nrm, Rhs.cs, prmR, tyR, atmR, expR, trmR, Atm.cs])⟩)

set_option maxRecDepth 100000 in
theorem lret_w (hc : S.code = codeP Tryz.prog) (hm : S.ms 20 = []) : SmOk Tryz.prog S N 20 (fun a : Atm => [.agg a.cs]) (fun a => .agg (eRet a).cs) (fun _ => True) (fun _ => 0) 0 := by
  rintro ⟨k, nm, ng, dg, tr⟩ σ hk hN
  refine JC.startF (fn := Tryz.f20) (codeOf hc Tryz.func20 rfl (by kernel_rfl)) rfl hm rfl (Nat.le_of_ble_eq_true rfl) fun tm => ?_
  refine CW.hide fun R0 hR0 => ?_
  simp only [Atm.cs]
  refine CW.seqK fun K hK => CW.region ?_
  simp (maxDischargeDepth := 16) [symX, List.length_set]
  refine hK _ _ ?_; clear hK K
  refine CW.seqK fun K hK => CW.region ?_
  simp (maxDischargeDepth := 16) [symX, List.length_set]
  refine hK _ _ ?_; clear hK K
  exact CW.ret (hR0 _ _ _ ⟨.agg [.lit (.int .u8 2), .lit (.string ⟨#[]⟩), .sl [] .full, .sl [] .full, .lit (.int .u8 k), .lit (.string nm), .lit (.bool ng), .sl (limR dg) .no, .lit (.bool tr), .sl [] .full, .sl [] .full], by simp [resultsA, omap, res_cell, symX], done (by simp [AV.pln, limR_pln, plnR, plnRR]) (by simp [AV.nrm, nrmR, nrmRR, limR_nrm, Exp.cs, tyR, rhsR, armR, expR])⟩)

set_option maxRecDepth 100000 in
theorem llet_w (hc : S.code = codeP Tryz.prog) (hm : S.ms 15 = []) : SmOk Tryz.prog S N 15 (fun p : ByteArray × Ty × Rhs × Exp => [.lit (.string p.1), .agg p.2.1.cs, .agg p.2.2.1.cs, .agg p.2.2.2.cs]) (fun p => .agg (eLet p.1 p.2.1 p.2.2.1 p.2.2.2).cs) (fun _ => True) (fun _ => 0) 0 := by
  rintro ⟨nm, ⟨yfn, yst, ⟨yk, ynm, yng, ydg, yks⟩, yps, yrs⟩, ⟨rk, rnm, rats, rps, rrs, rbd, rts⟩, ⟨ek, enm, ety, erh, ⟨amk, amnm, amng, amdg, amtr⟩, ear, ebd⟩⟩ σ hk hN
  refine JC.startF (fn := Tryz.f15) (codeOf hc Tryz.func15 rfl (by kernel_rfl)) rfl hm rfl (Nat.le_of_ble_eq_true rfl) fun tm => ?_
  refine CW.hide fun R0 hR0 => ?_
  simp only [Ty.cs, Rhs.cs, Exp.cs]
  refine CW.seqK fun K hK => CW.region ?_
  simp (maxDischargeDepth := 16) [symX, List.length_set]
  refine hK _ _ ?_; clear hK K
  refine CW.seqK fun K hK => CW.region ?_
  simp (maxDischargeDepth := 16) [symX, List.length_set]
  refine hK _ _ ?_; clear hK K
  exact CW.ret (hR0 _ _ _ ⟨.agg [.lit (.int .u8 1), .lit (.string nm), .sl [[.lit (.bool yfn), .lit (.string yst), .lit (.int .u8 yk), .lit (.string ynm), .lit (.bool yng), .sl (limR ydg) .no, .sl (trmR yks) .no, .sl (prmR yps) .no, .sl (tyR yrs) .no]] .full, .sl [[.lit (.int .u8 rk), .lit (.string rnm), .sl (atmR rats) .no, .sl (prmR rps) .no, .sl (tyR rrs) .no, .sl (expR rbd) .no, .sl (trmR rts) .no]] .full, .lit (.int .u8 0), .lit (.string ⟨#[]⟩), .lit (.bool false), .sl [] .full, .lit (.bool false), .sl [] .full, .sl [[.lit (.int .u8 ek), .lit (.string enm), .sl (tyR ety) .no, .sl (rhsR erh) .no, .lit (.int .u8 amk), .lit (.string amnm), .lit (.bool amng), .sl (limR amdg) .no, .lit (.bool amtr), .sl (armR ear) .no, .sl (expR ebd) .no]] .full], by simp [resultsA, omap, res_cell, symX], done (by simp [AV.pln, limR_pln, trmR_pln, prmR_pln, tyR_pln, atmR_pln, expR_pln, rhsR_pln, armR_pln, plnR, plnRR]) (by simp [AV.nrm, nrmR, nrmRR, limR_nrm, trmR_nrm, prmR_nrm, tyR_nrm, atmR_nrm, expR_nrm, rhsR_nrm, armR_nrm, Exp.cs, tyR, rhsR, armR, expR, Ty.cs, Rhs.cs, show limR [] = [] from rfl])⟩)

set_option maxRecDepth 100000 in
theorem lgreat_w (hc : S.code = codeP Tryz.prog) (hm : S.ms 6 = []) (h1 : S.sp 22 = some expsGoF) : SmOk Tryz.prog S N 6 (fun l : List Exp => [.sl (expR l) .no]) (fun l => .lit (.bool (decide (expsGo l 2000 0 > 2000)))) (fun l => l.length ≤ 140737488355328 ∧ expSm l) expN 8 := by
  intro l σ hk hN
  refine JC.startF (fn := Tryz.f6) (codeOf hc Tryz.func6 rfl (by kernel_rfl)) rfl hm rfl (Nat.le_of_ble_eq_true rfl) fun tm => ?_
  refine CW.hide fun R0 hR0 => ?_
  refine CW.seqK fun K hK => CW.region ?_
  simp (maxDischargeDepth := 16) [symX, List.length_set]
  refine hK _ _ ?_; clear hK K
  refine CW.seqK fun K hK => CW.region ?_
  simp (maxDischargeDepth := 16) [symX, List.length_set]
  refine call_sm (l, 2000) h1 expsGo_inj (by simp only [nrmR, AV.nrm, expR_nrm]) hk (by dsimp only; omega) fun _ => ?_
  simp (maxDischargeDepth := 16) [symX, List.length_set]
  refine hK _ _ (CW.ret (hR0 _ _ _ ⟨.lit (.bool (decide (expsGo l 2000 0 > 2000))), by simp [resultsA, omap, res_tmp, symF, lk], done0 rfl rfl⟩))
end
end Go.Proofs.YtncoidmbmihliaaGreatDoor
