/-
 EV: the statements' numbers 1 and 3: whetstoneref02.Of, and what it calls.
-/
import Derived.Test.YtncoidmbmihliaaGreatDoorTFree2M
import Derived.Test.YtncoidmbmihliaaGreatDoorKOfM
import Derived.Test.YtncoidmbmihliaaGreatDoorTr7M
namespace Go.Proofs.YtncoidmbmihliaaGreatDoor
set_option maxRecDepth 100000
set_option maxHeartbeats 8000000
set_option linter.unusedSimpArgs false
set_option linter.unusedVariables false
section
open Go.RowKit
variable {S : Sp} {N : Nat}
abbrev One (k : Int) : Prop := k = 1 ∨ k = 3
abbrev b1 (k : Int) : AV := .sl [[.lit (.int .u8 k)]] .no
abbrev u1 (k : Int) : AV := .sl (limR [k]) .no
abbrev trim1F : FS := smF (fun k => [b1 k]) b1 One (fun _ => 0) 0
abbrev plus1F : FS := smF (fun k => [.sl [] .no, b1 k]) b1 One (fun _ => 0) 1
abbrev read1F : FS := smF (fun k => [u1 k]) b1 One (fun _ => 0) 2
abbrev write1F : FS := smF (fun k => [b1 k]) u1 One (fun _ => 0) 0
abbrev Trim1F : FS := smF (fun k => [u1 k]) u1 One (fun _ => 0) 3
abbrev of1F : FS := smF (fun k => [.lit (.bool false), u1 k]) (fun k => .agg [.lit (.bool false), u1 k]) One (fun _ => 0) 4
abbrev Of1F : FS := smF (fun k => [.lit (.int .i64 k)]) (fun k => .agg [.lit (.bool false), u1 k]) One (fun _ => 0) 5
theorem b1_inj (a b : Int) (e : [b1 a] = [b1 b]) : a = b := by simpa using e
theorem nb1_inj (a b : Int) (e : [AV.sl [] .no, b1 a] = [.sl [] .no, b1 b]) : a = b := by simpa using e
theorem u1_inj (a b : Int) (e : [u1 a] = [u1 b]) : a = b := by simpa [limR] using e
theorem fu1_inj (a b : Int) (e : [AV.lit (.bool false), u1 a] = [.lit (.bool false), u1 b]) : a = b := by simpa [limR] using e
theorem k1_inj (a b : Int) (e : [AV.lit (.int .i64 a)] = [AV.lit (.int .i64 b)]) : a = b := by simpa using e
theorem trim1_w (hc : S.code = codeP Tryz.prog) (hm : S.ms 155 = []) : SmOk Tryz.prog S N 155 (fun k => [b1 k]) b1 One (fun _ => 0) 0 := by
 intro k σ hk hN
 refine JC.startF (fn := Tryz.f155) (codeOf hc Tryz.func155 rfl (by kernel_rfl)) rfl hm rfl (zL rfl) fun tm => ?_
 refine CW.hide fun R0 hR0 => ?_
 have h0 : k ≠ 0 := by rcases hk with rfl | rfl <;> decide
 have hw : IntKind.i64.wrap 0 = 0 := rfl
 refine CW.seqK fun K hK => CW.region ?_
 simp (maxDischargeDepth := 16) [zY]
 refine hK _ _ ?_; clear hK K
 refine CW.seqK fun K hK => CW.block (CW.hide fun R hR => ?_)
 refine CW.loop (CW.hide fun R2 hR2 => CW.seqK fun K4 hK4 => CW.seqK fun K5 hK5 => CW.region ?_)
 simp (maxDischargeDepth := 16) [zY, h0, hw]
 refine hK5 _ _ ?_
 refine CW.cond (t := false) (by simp [zT, zF, lk, h0]) ?_
 refine CW.exit (hR2 _ _ _ (hR _ _ _ ?_))
 simp only [outOf, if_true, andThen]
 refine hK _ _ ?_
 refine CW.seqK fun K hK => CW.region ?_
 simp (maxDischargeDepth := 16) [zY]
 refine hK _ _ ?_; clear hK K
 exact CW.ret (hR0 _ _ _ ⟨b1 k, by simp [zA, omap, zB, zF, lk], done0 rfl rfl⟩)
theorem plus1_w (hc : S.code = codeP Tryz.prog) (hm : S.ms 151 = []) (h1 : S.sp 155 = some trim1F) : SmOk Tryz.prog S N 151 (fun k => [.sl [] .no, b1 k]) b1 One (fun _ => 0) 1 := by
 intro k σ hk hN
 refine JC.startF (fn := Tryz.f151) (codeOf hc Tryz.func151 rfl (by kernel_rfl)) rfl hm rfl (zL rfl) fun tm => ?_
 refine CW.hide fun R0 hR0 => ?_
 have hw : IntKind.i64.wrap 1 = 1 := rfl
 have w1 : IntKind.u8.wrap (0 + k) = k := by rcases hk with rfl | rfl <;> rfl
 have w1' : IntKind.u8.wrap k = k := by rcases hk with rfl | rfl <;> rfl
 have w2 : k.tmod 10 = k := by rcases hk with rfl | rfl <;> rfl
 have w0 : IntKind.u8.wrap 0 = 0 := rfl
 have w3 : IntKind.u8.wrap (k.tdiv 10) = 0 := by rcases hk with rfl | rfl <;> rfl
 have w4 : k.tdiv 10 = 0 := by rcases hk with rfl | rfl <;> rfl
 obtain ⟨tok', g', acc, hA', hap⟩ := apd (P := Tryz.prog) (M := []) (σ := σ) (g := []) (t := 187) (e := 5) (k := 0) (by_ := 1) [] [[.lit (.int .u8 k)]] (Apd.nil σ _ []) (by kernel_rfl) (by kernel_rfl) (by kernel_rfl) (by kernel_rfl) rfl rfl (by simp) (by simp) (by simp)
 simp only [List.append_nil] at hap
 refine CW.seqK fun K hK => CW.region ?_
 simp (maxDischargeDepth := 16) [zY]
 refine hK _ _ ?_; clear hK K
 refine CW.seqK fun K hK => CW.region ?_
 simp (maxDischargeDepth := 16) [zY]
 refine hK _ _ ?_; clear hK K
 refine CW.seqK fun K hK => CW.region ?_
 simp (maxDischargeDepth := 16) [zY]
 refine hK _ _ ?_; clear hK K
 refine CW.seqK fun K hK => ?_
 refine CW.seqK fun K hK => CW.region ?_
 simp (maxDischargeDepth := 16) [zY]
 refine hK _ _ ?_; clear hK K
 refine CW.block (CW.hide fun R hR => ?_)
 refine CW.loop (CW.hide fun R2 hR2 => CW.seqK fun K4 hK4 => CW.seqK fun K5 hK5 => CW.region ?_)
 simp (maxDischargeDepth := 16) [zY]
 refine hK5 _ _ ?_
 refine CW.cond (t := true) (by simp [zT, zF, lk]) ?_
 refine CW.skip (hK4 _ _ ?_)
 refine CW.seqK fun K6 hK6 => CW.block ?_
 refine CW.seqK fun K hK => CW.region ?_
 simp (maxDischargeDepth := 16) [zY]
 refine hK _ _ ?_; clear hK K
 refine CW.seqK fun K7 hK7 => ?_
 refine CW.seqK fun K hK => CW.region ?_
 simp (maxDischargeDepth := 16) [zY]
 refine hK _ _ ?_; clear hK K
 refine CW.cond (t := false) (by simp [zT, zF, lk]) ?_
 refine CW.skip (hK7 _ _ ?_); clear hK7 K7
 refine CW.seqK fun K7 hK7 => ?_
 refine CW.seqK fun K hK => CW.region ?_
 simp (maxDischargeDepth := 16) [zY]
 refine hK _ _ ?_; clear hK K
 refine CW.cond (t := true) (by simp [zT, zF, lk]) ?_
 refine CW.region ?_
 simp (maxDischargeDepth := 16) [zY, w1, w1']
 refine hK7 _ _ ?_; clear hK7 K7
 refine CW.seqK fun K7 hK7 => CW.region ?_
 simp (maxDischargeDepth := 16) [zY, w2, hap]
 refine hK7 _ _ ?_
 refine CW.region ?_
 simp (maxDischargeDepth := 16) [zY, w3, w4, w0]
 refine hK6 _ _ ?_
 refine CW.region ?_
 simp (maxDischargeDepth := 16) [zY, hw]
 refine hR2 _ _ _ ?_
 show CW _ _ _ _ _ _ _
 refine CW.keep [0, 1, 4, 5, 6, 7] fun tm => ?_
 simp only [zX]
 refine CW.loop (CW.hide fun R3 hR3 => CW.seqK fun K8 hK8 => CW.seqK fun K9 hK9 => CW.region ?_)
 simp (maxDischargeDepth := 16) [zY]
 refine hK9 _ _ ?_
 refine CW.cond (t := false) (by simp [zT, zF, lk]) ?_
 refine CW.exit (hR3 _ _ _ (hR _ _ _ ?_))
 simp only [outOf, if_true, andThen]
 refine hK _ _ ?_
 refine CW.seqK fun K hK => CW.region ?_
 simp (maxDischargeDepth := 16) [zY]
 refine call_sm k h1 b1_inj (by simp [nrmR, AV.nrm, nrmRR]) hk (by omega) fun _ => ?_
 simp (maxDischargeDepth := 16) [zY]
 refine hK _ _ (CW.ret (hR0 _ _ _ ⟨b1 k, by simp [zA, omap, zB, zF, lk], done rfl rfl⟩))
theorem read1_w (hc : S.code = codeP Tryz.prog) (hm : S.ms 142 = []) (h1 : S.sp 151 = some plus1F) : SmOk Tryz.prog S N 142 (fun k => [u1 k]) b1 One (fun _ => 0) 2 := by
 intro k σ hk hN
 refine JC.startF (fn := Tryz.f142) (codeOf hc Tryz.func142 rfl (by kernel_rfl)) rfl hm rfl (zL rfl) fun tm => ?_
 refine CW.hide fun R0 hR0 => ?_
 have hw : IntKind.i64.wrap 0 = 0 := rfl
 have hw1 : IntKind.i64.wrap (-1) = -1 := rfl
 have w1 : IntKind.u8.wrap k = k := by rcases hk with rfl | rfl <;> rfl
 have w2 : k.tmod 10 = k := by rcases hk with rfl | rfl <;> rfl
 have w3 : k.tdiv 10 = 0 := by rcases hk with rfl | rfl <;> rfl
 have w4 : IntKind.u32.wrap 0 = 0 := rfl
 have w5 : k > 0 := by rcases hk with rfl | rfl <;> decide
 obtain ⟨tok', g', acc, hA', hap⟩ := apd (P := Tryz.prog) (M := []) (σ := σ) (g := []) (t := 187) (e := 5) (k := 0) (by_ := 1) [] [[.lit (.int .u8 k)]] (Apd.nil σ _ []) (by kernel_rfl) (by kernel_rfl) (by kernel_rfl) (by kernel_rfl) rfl rfl (by simp) (by simp) (by simp)
 simp only [List.append_nil] at hap
 simp only [u1, limR, List.map_cons, List.map_nil]
 refine CW.seqK fun K hK => CW.region ?_
 simp (maxDischargeDepth := 16) [zY]
 refine hK _ _ ?_; clear hK K
 refine CW.seqK fun K hK => CW.region ?_
 simp (maxDischargeDepth := 16) [zY]
 refine hK _ _ ?_; clear hK K
 refine CW.seqK fun K hK => ?_
 refine CW.seqK fun K hK => CW.region ?_
 simp (maxDischargeDepth := 16) [zY, hw]
 refine hK _ _ ?_; clear hK K
 refine CW.block (CW.hide fun R hR => ?_)
 refine CW.loop (CW.hide fun R2 hR2 => CW.seqK fun K4 hK4 => CW.seqK fun K5 hK5 => CW.region ?_)
 simp (maxDischargeDepth := 16) [zY]
 refine hK5 _ _ ?_
 refine CW.cond (t := true) (by simp [zT, zF, lk]) ?_
 refine CW.skip (hK4 _ _ ?_)
 refine CW.seqK fun K6 hK6 => CW.block ?_
 refine CW.seqK fun K7 hK7 => ?_
 refine CW.seqK fun K hK => CW.region ?_
 simp (maxDischargeDepth := 16) [zY]
 refine hK _ _ ?_; clear hK K
 refine CW.cond (t := false) (by simp [zT, zF, lk]) ?_
 refine CW.skip (hK7 _ _ ?_); clear hK7 K7
 refine CW.seqK fun K hK => CW.region ?_
 simp (maxDischargeDepth := 16) [zY]
 refine hK _ _ ?_; clear hK K
 refine CW.seqK fun K7 hK7 => ?_
 refine CW.seqK fun K hK => CW.region ?_
 simp (maxDischargeDepth := 16) [zY]
 refine hK _ _ ?_; clear hK K
 refine CW.block (CW.hide fun RR hRR => ?_)
 refine CW.loop (CW.hide fun R3 hR3 => CW.seqK fun K8 hK8 => CW.seqK fun K9 hK9 => CW.region ?_)
 simp (maxDischargeDepth := 16) [zY, w5]
 refine hK9 _ _ ?_
 refine CW.cond (t := true) (by simp [zT, zF, lk, w5]) ?_
 refine CW.skip (hK8 _ _ ?_)
 refine CW.seqK fun K10 hK10 => CW.block ?_
 refine CW.region ?_
 simp (maxDischargeDepth := 16) [zY, w2, w1, hap]
 refine hK10 _ _ ?_
 refine CW.region ?_
 simp (maxDischargeDepth := 16) [zY, w3, w4]
 refine hR3 _ _ _ ?_
 show CW _ _ _ _ _ _ _
 refine CW.loop (CW.hide fun R4 hR4 => CW.seqK fun K11 hK11 => CW.seqK fun K12 hK12 => CW.region ?_)
 simp (maxDischargeDepth := 16) [zY]
 refine hK12 _ _ ?_
 refine CW.cond (t := false) (by simp [zT, zF, lk]) ?_
 refine CW.exit (hR4 _ _ _ (hRR _ _ _ ?_))
 simp only [outOf, if_true, andThen]
 refine hK7 _ _ ?_
 refine CW.region ?_
 simp (maxDischargeDepth := 16) [zY]
 refine call_sm k h1 nb1_inj (by simp [nrmR, AV.nrm, nrmRR]) hk (by omega) fun _ => ?_
 simp (maxDischargeDepth := 16) [zY]
 refine hK6 _ _ ?_
 refine CW.region ?_
 simp (maxDischargeDepth := 16) [zY, hw1]
 refine hR2 _ _ _ ?_
 show CW _ _ _ _ _ _ _
 refine CW.loop (CW.hide fun R4 hR4 => CW.seqK fun K11 hK11 => CW.seqK fun K12 hK12 => CW.region ?_)
 simp (maxDischargeDepth := 16) [zY]
 refine hK12 _ _ ?_
 refine CW.cond (t := false) (by simp [zT, zF, lk]) ?_
 refine CW.exit (hR4 _ _ _ (hR _ _ _ ?_))
 simp only [outOf, if_true, andThen]
 refine hK _ _ ?_
 refine CW.seqK fun K hK => CW.region ?_
 simp (maxDischargeDepth := 16) [zY]
 refine hK _ _ ?_; clear hK K
 exact CW.ret (hR0 _ _ _ ⟨b1 k, by simp [zA, omap, zB, zF, lk], done rfl rfl⟩)
theorem write1_w (hc : S.code = codeP Tryz.prog) (hm : S.ms 141 = []) : SmOk Tryz.prog S N 141 (fun k => [b1 k]) u1 One (fun _ => 0) 0 := by
 intro k σ hk hN
 refine JC.startF (fn := Tryz.f141) (codeOf hc Tryz.func141 rfl (by kernel_rfl)) rfl hm rfl (zL rfl) fun tm => ?_
 refine CW.hide fun R0 hR0 => ?_
 have hw : IntKind.i64.wrap 0 = 0 := rfl
 have hw1 : IntKind.i64.wrap (-1) = -1 := rfl
 have hw9 : IntKind.i64.wrap 9 = 9 := rfl
 have w1 : IntKind.u32.wrap k = k := by rcases hk with rfl | rfl <;> rfl
 have w0 : IntKind.u32.wrap 0 = 0 := rfl
 obtain ⟨tok', g', acc, hA', hap⟩ := apd (P := Tryz.prog) (M := []) (σ := σ) (g := []) (t := 26) (e := 111) (k := 0) (by_ := 4) [] [[.lit (.int .u32 k)]] (Apd.nil σ _ []) (by kernel_rfl) (by kernel_rfl) (by kernel_rfl) (by kernel_rfl) rfl rfl (by simp) (by simp) (by simp)
 simp only [List.append_nil] at hap
 simp only [u1, limR, List.map_cons, List.map_nil]
 refine CW.seqK fun K hK => CW.region ?_
 simp (maxDischargeDepth := 16) [zY]
 refine hK _ _ ?_; clear hK K
 refine CW.seqK fun K hK => CW.region ?_
 simp (maxDischargeDepth := 16) [zY]
 refine hK _ _ ?_; clear hK K
 refine CW.seqK fun K hK => ?_
 refine CW.seqK fun K hK => CW.region ?_
 simp (maxDischargeDepth := 16) [zY]
 refine hK _ _ ?_; clear hK K
 refine CW.block (CW.hide fun R hR => ?_)
 refine CW.loop (CW.hide fun R2 hR2 => CW.seqK fun K4 hK4 => CW.seqK fun K5 hK5 => CW.region ?_)
 simp (maxDischargeDepth := 16) [zY]
 refine hK5 _ _ ?_
 refine CW.cond (t := true) (by simp [zT, zF, lk]) ?_
 refine CW.skip (hK4 _ _ ?_)
 refine CW.seqK fun K6 hK6 => CW.block ?_
 refine CW.seqK fun K hK => CW.region ?_
 simp (maxDischargeDepth := 16) [zY]
 refine hK _ _ ?_; clear hK K
 refine CW.seqK fun K7 hK7 => ?_
 refine CW.seqK fun K hK => CW.region ?_
 simp (maxDischargeDepth := 16) [zY, es_min, hw9, hw]
 refine hK _ _ ?_; clear hK K
 refine CW.block (CW.hide fun RR hRR => ?_)
 refine CW.loop (CW.hide fun R3 hR3 => CW.seqK fun K8 hK8 => CW.seqK fun K9 hK9 => CW.region ?_)
 simp (maxDischargeDepth := 16) [zY]
 refine hK9 _ _ ?_
 refine CW.cond (t := true) (by simp [zT, zF, lk]) ?_
 refine CW.skip (hK8 _ _ ?_)
 refine CW.seqK fun K10 hK10 => CW.block ?_
 refine CW.region ?_
 simp (maxDischargeDepth := 16) [zY, w1, w0]
 refine hK10 _ _ ?_
 refine CW.region ?_
 simp (maxDischargeDepth := 16) [zY, hw1]
 refine hR3 _ _ _ ?_
 show CW _ _ _ _ _ _ _
 refine CW.loop (CW.hide fun R4 hR4 => CW.seqK fun K11 hK11 => CW.seqK fun K12 hK12 => CW.region ?_)
 simp (maxDischargeDepth := 16) [zY]
 refine hK12 _ _ ?_
 refine CW.cond (t := false) (by simp [zT, zF, lk]) ?_
 refine CW.exit (hR4 _ _ _ (hRR _ _ _ ?_))
 simp only [outOf, if_true, andThen]
 refine hK7 _ _ ?_
 refine CW.region ?_
 simp (maxDischargeDepth := 16) [zY, hap]
 refine hK6 _ _ ?_
 refine CW.region ?_
 simp (maxDischargeDepth := 16) [zY, hw9]
 refine hR2 _ _ _ ?_
 show CW _ _ _ _ _ _ _
 refine CW.loop (CW.hide fun R4 hR4 => CW.seqK fun K11 hK11 => CW.seqK fun K12 hK12 => CW.region ?_)
 simp (maxDischargeDepth := 16) [zY]
 refine hK12 _ _ ?_
 refine CW.cond (t := false) (by simp [zT, zF, lk]) ?_
 refine CW.exit (hR4 _ _ _ (hR _ _ _ ?_))
 simp only [outOf, if_true, andThen]
 refine hK _ _ ?_
 refine CW.seqK fun K hK => CW.region ?_
 simp (maxDischargeDepth := 16) [zY]
 refine hK _ _ ?_; clear hK K
 exact CW.ret (hR0 _ _ _ ⟨.sl [[.lit (.int .u32 k)]] tok', by simp [zA, omap, zB, zF, lk], done rfl rfl⟩)
theorem Trim1_w (hc : S.code = codeP Tryz.prog) (hm : S.ms 123 = []) (h1 : S.sp 142 = some read1F) (h2 : S.sp 141 = some write1F) : SmOk Tryz.prog S N 123 (fun k => [u1 k]) u1 One (fun _ => 0) 3 := by
 intro k σ hk hN
 refine JC.startF (fn := Tryz.f123) (codeOf hc Tryz.func123 rfl (by kernel_rfl)) rfl hm rfl (zL rfl) fun tm => ?_
 refine CW.hide fun R0 hR0 => ?_
 refine CW.seqK fun K hK => CW.region ?_
 simp (maxDischargeDepth := 16) [zY]
 refine hK _ _ ?_; clear hK K
 refine CW.seqK fun K hK => CW.region ?_
 simp (maxDischargeDepth := 16) [zY]
 refine call_sm k h1 u1_inj (by simp only [nrmR, AV.nrm, limR_nrm]) hk (by omega) fun _ => ?_
 simp (maxDischargeDepth := 16) [zY]
 refine call_sm k h2 b1_inj (by simp [nrmR, AV.nrm, nrmRR]) hk (by omega) fun _ => ?_
 simp (maxDischargeDepth := 16) [zY]
 refine hK _ _ (CW.ret (hR0 _ _ _ ⟨u1 k, by simp [zA, omap, zB, zF, lk], done0 rfl (by simp [AV.nrm, limR_nrm])⟩))
theorem of1_w (hc : S.code = codeP Tryz.prog) (hm : S.ms 93 = []) (h1 : S.sp 123 = some Trim1F) : SmOk Tryz.prog S N 93 (fun k => [.lit (.bool false), u1 k]) (fun k => .agg [.lit (.bool false), u1 k]) One (fun _ => 0) 4 := by
 intro k σ hk hN
 refine JC.startF (fn := Tryz.f93) (codeOf hc Tryz.func93 rfl (by kernel_rfl)) rfl hm rfl (zL rfl) fun tm => ?_
 refine CW.hide fun R0 hR0 => ?_
 refine CW.seqK fun K hK => CW.region ?_
 simp (maxDischargeDepth := 16) [zY]
 refine hK _ _ ?_; clear hK K
 refine CW.seqK fun K hK => CW.region ?_
 simp (maxDischargeDepth := 16) [zY]
 refine call_sm k h1 u1_inj (by simp only [nrmR, AV.nrm, limR_nrm]) hk (by omega) fun _ => ?_
 simp (maxDischargeDepth := 16) [zY]
 refine hK _ _ ?_; clear hK K
 refine CW.seqK fun K hK => CW.region ?_
 simp (maxDischargeDepth := 16) [zY]
 refine hK _ _ ?_; clear hK K
 exact CW.ret (hR0 _ _ _ ⟨.agg [.lit (.bool false), u1 k], by simp [zA, omap, zC, zX], done (by simp [AV.pln, limR_pln, plnR]) (by simp [AV.nrm, nrmR, limR_nrm])⟩)
theorem Of1_w (hc : S.code = codeP Tryz.prog) (hm : S.ms 52 = []) (h1 : S.sp 93 = some of1F) : SmOk Tryz.prog S N 52 (fun k => [.lit (.int .i64 k)]) (fun k => .agg [.lit (.bool false), u1 k]) One (fun _ => 0) 5 := by
 intro k σ hk hN
 refine JC.startF (fn := Tryz.f52) (codeOf hc Tryz.func52 rfl (by kernel_rfl)) rfl hm rfl (zL rfl) fun tm => ?_
 refine CW.hide fun R0 hR0 => ?_
 have w1 : IntKind.u64.wrap k = k := by rcases hk with rfl | rfl <;> rfl
 have w2 : k.tmod 1000000000 = k := by rcases hk with rfl | rfl <;> rfl
 have w3 : k.tdiv 1000000000 = 0 := by rcases hk with rfl | rfl <;> rfl
 have w4 : IntKind.u32.wrap k = k := by rcases hk with rfl | rfl <;> rfl
 have w6 : IntKind.u64.wrap 0 = 0 := rfl
 have w5 : k > 0 := by rcases hk with rfl | rfl <;> decide
 have w7 : ¬ k < 0 := by rcases hk with rfl | rfl <;> decide
 obtain ⟨tok', g', acc, hA', hap⟩ := apd (P := Tryz.prog) (M := []) (σ := σ ++ [.cells [.lit (.bool false), .sl [] .full] 28]) (g := []) (t := 26) (e := 111) (k := 0) (by_ := 4) [] [[.lit (.int .u32 k)]] (Apd.nil _ _ []) (by kernel_rfl) (by kernel_rfl) (by kernel_rfl) (by kernel_rfl) rfl rfl (by simp) (by simp) (by simp)
 simp only [List.append_nil] at hap
 refine CW.seqK fun K hK => CW.region ?_
 simp (maxDischargeDepth := 16) [zY]
 refine hK _ _ ?_; clear hK K
 refine CW.seqK fun K hK => CW.region ?_
 simp (maxDischargeDepth := 16) [zY, w1]
 refine hK _ _ ?_; clear hK K
 refine CW.seqK fun K hK => ?_
 refine CW.seqK fun K hK => CW.region ?_
 simp (maxDischargeDepth := 16) [zY, w7]
 refine hK _ _ ?_; clear hK K
 refine CW.cond (t := false) (by simp [zT, zF, lk, w7]) ?_
 refine CW.skip (hK _ _ ?_); clear hK K
 refine CW.seqK fun K hK => CW.region ?_
 simp (maxDischargeDepth := 16) [zY]
 refine hK _ _ ?_; clear hK K
 refine CW.seqK fun K hK => ?_
 refine CW.block (CW.hide fun R hR => ?_)
 refine CW.loop (CW.hide fun R2 hR2 => CW.seqK fun K4 hK4 => CW.seqK fun K5 hK5 => CW.region ?_)
 simp (maxDischargeDepth := 16) [zY, w5]
 refine hK5 _ _ ?_
 refine CW.cond (t := true) (by simp [zT, zF, lk, w5]) ?_
 refine CW.skip (hK4 _ _ ?_)
 refine CW.block (CW.seqK fun K6 hK6 => CW.region ?_)
 simp (maxDischargeDepth := 16) [zY, w2, w4, hap]
 refine hK6 _ _ ?_
 refine CW.region ?_
 simp (maxDischargeDepth := 16) [zY, w3, w6]
 refine hR2 _ _ _ ?_
 show CW _ _ _ _ _ _ _
 refine CW.loop (CW.hide fun R4 hR4 => CW.seqK fun K11 hK11 => CW.seqK fun K12 hK12 => CW.region ?_)
 simp (maxDischargeDepth := 16) [zY]
 refine hK12 _ _ ?_
 refine CW.cond (t := false) (by simp [zT, zF, lk]) ?_
 refine CW.exit (hR4 _ _ _ (hR _ _ _ ?_))
 simp only [outOf, if_true, andThen]
 refine hK _ _ ?_
 refine CW.seqK fun K hK => CW.region ?_
 simp (maxDischargeDepth := 16) [zY, w7]
 refine call_sm k h1 fu1_inj (by simp [nrmR, AV.nrm, limR, nrmRR]) hk (by omega) fun _ => ?_
 simp (maxDischargeDepth := 16) [zY]
 refine hK _ _ (CW.ret (hR0 _ _ _ ⟨.agg [.lit (.bool false), u1 k], by simp [zA, omap, zC, zX], done (by simp [AV.pln, limR_pln, plnR]) (by simp [AV.nrm, nrmR, limR_nrm])⟩))
end
section
open Go.RowKit
variable {S : Sp} {N : Nat}
abbrev tInt : ByteArray := ⟨#[105, 110, 116]⟩
abbrev tAdd : ByteArray := ⟨#[97, 100, 100]⟩
abbrev tX : ByteArray := ⟨#[120]⟩
abbrev tY : ByteArray := ⟨#[121]⟩
abbrev aV (nm : ByteArray) : Atm := .mk 1 nm false [] false
abbrev aN (k : Int) : Atm := .mk 2 ⟨#[]⟩ false [k] false
abbrev tYes : Trm := .mk 3 ⟨#[]⟩ false [] []
abbrev yBase (st : ByteArray) (t : Trm) : Ty := .mk false st t [] []
abbrev rAdd (a b : Atm) : Rhs := .mk 2 tAdd [a, b] [] [] [] []
abbrev eRet (a : Atm) : Exp := .mk 2 ⟨#[]⟩ [] [] a [] []
abbrev eLet (nm : ByteArray) (t : Ty) (r : Rhs) (e : Exp) : Exp := .mk 1 nm [t] [r] (.mk 0 ⟨#[]⟩ false [] false) [] [e]
abbrev lvF : FS := smF (fun nm : ByteArray => [.lit (.string nm)]) (fun nm => .agg (aV nm).cs) (fun _ => True) (fun _ => 0) 0
abbrev lnF : FS := smF (fun k : Int => [.lit (.int .i64 k)]) (fun k => .agg (aN k).cs) One (fun _ => 0) 6
abbrev lyesF : FS := smF (fun _ : Unit => []) (fun _ => .agg tYes.cs) (fun _ => True) (fun _ => 0) 0
abbrev lbaseF : FS := smF (fun p : ByteArray × Trm => [.lit (.string p.1), .agg p.2.cs]) (fun p => .agg (yBase p.1 p.2).cs) (fun _ => True) (fun _ => 0) 0
abbrev laddF : FS := smF (fun p : Atm × Atm => [.agg p.1.cs, .agg p.2.cs]) (fun p => .agg (rAdd p.1 p.2).cs) (fun _ => True) (fun _ => 0) 0
abbrev lretF : FS := smF (fun a : Atm => [.agg a.cs]) (fun a => .agg (eRet a).cs) (fun _ => True) (fun _ => 0) 0
abbrev lletF : FS := smF (fun p : ByteArray × Ty × Rhs × Exp => [.lit (.string p.1), .agg p.2.1.cs, .agg p.2.2.1.cs, .agg p.2.2.2.cs]) (fun p => .agg (eLet p.1 p.2.1 p.2.2.1 p.2.2.2).cs) (fun _ => True) (fun _ => 0) 0
abbrev lgreatF : FS := smF (fun l : List Exp => [.sl (expR l) .no]) (fun l => .lit (.bool (decide (expsGo l 2000 0 > 2000)))) (fun l => l.length ≤ 140737488355328 ∧ expSm l) expN 8
theorem lv_inj (a b : ByteArray) (e : [AV.lit (.string a)] = [AV.lit (.string b)]) : a = b := by simpa using e
theorem lyes_inj (a b : Unit) (e : ([] : List AV) = []) : a = b := rfl
theorem lbase_inj (a b : ByteArray × Trm) (e : [AV.lit (.string a.1), .agg a.2.cs] = [AV.lit (.string b.1), .agg b.2.cs]) : a = b := by
 obtain ⟨a1, a2⟩ := a; obtain ⟨b1, b2⟩ := b
 simp only [List.cons.injEq, AV.lit.injEq, Value.string.injEq, AV.agg.injEq, and_true] at e
 rw [e.1, Trm.inj e.2]
theorem ladd_inj (a b : Atm × Atm) (e : [AV.agg a.1.cs, .agg a.2.cs] = [AV.agg b.1.cs, .agg b.2.cs]) : a = b := by
 obtain ⟨a1, a2⟩ := a; obtain ⟨b1, b2⟩ := b
 simp only [List.cons.injEq, AV.agg.injEq, and_true] at e
 rw [Atm.inj e.1, Atm.inj e.2]
theorem lret_inj (a b : Atm) (e : [AV.agg a.cs] = [AV.agg b.cs]) : a = b := by
 simp only [List.cons.injEq, AV.agg.injEq, and_true] at e
 exact Atm.inj e
theorem llet_inj (a b : ByteArray × Ty × Rhs × Exp) (e : [AV.lit (.string a.1), .agg a.2.1.cs, .agg a.2.2.1.cs, .agg a.2.2.2.cs] = [AV.lit (.string b.1), .agg b.2.1.cs, .agg b.2.2.1.cs, .agg b.2.2.2.cs]) : a = b := by
 obtain ⟨a1, a2, a3, a4⟩ := a; obtain ⟨b1, b2, b3, b4⟩ := b
 simp only [List.cons.injEq, AV.lit.injEq, Value.string.injEq, AV.agg.injEq, and_true] at e
 rw [e.1, Ty.inj e.2.1, Rhs.inj e.2.2.1, Exp.inj e.2.2.2]
theorem lgreat_inj (a b : List Exp) (e : [AV.sl (expR a) .no] = [AV.sl (expR b) .no]) : a = b := by
 simp only [List.cons.injEq, AV.sl.injEq, and_true] at e
 exact expR_inj e
theorem lv_w (hc : S.code = codeP Tryz.prog) (hm : S.ms 9 = []) : SmOk Tryz.prog S N 9 (fun nm : ByteArray => [.lit (.string nm)]) (fun nm => .agg (aV nm).cs) (fun _ => True) (fun _ => 0) 0 := by
 intro nm σ hk hN
 refine JC.startF (fn := Tryz.f9) (codeOf hc Tryz.func9 rfl (by kernel_rfl)) rfl hm rfl (zL rfl) fun tm => ?_
 refine CW.hide fun R0 hR0 => ?_
 refine CW.seqK fun K hK => CW.region ?_
 simp (maxDischargeDepth := 16) [zY]
 refine hK _ _ ?_; clear hK K
 refine CW.seqK fun K hK => CW.region ?_
 simp (maxDischargeDepth := 16) [zY]
 refine hK _ _ ?_; clear hK K
 exact CW.ret (hR0 _ _ _ ⟨.agg [.lit (.int .u8 1), .lit (.string nm), .lit (.bool false), .sl [] .full, .lit (.bool false)], by simp [zA, omap, zC, zX], done rfl rfl⟩)
theorem ln_w (hc : S.code = codeP Tryz.prog) (hm : S.ms 19 = []) (h1 : S.sp 52 = some Of1F) : SmOk Tryz.prog S N 19 (fun k : Int => [.lit (.int .i64 k)]) (fun k => .agg (aN k).cs) One (fun _ => 0) 6 := by
 intro k σ hk hN
 refine JC.startF (fn := Tryz.f19) (codeOf hc Tryz.func19 rfl (by kernel_rfl)) rfl hm rfl (zL rfl) fun tm => ?_
 refine CW.hide fun R0 hR0 => ?_
 refine CW.seqK fun K hK => CW.region ?_
 simp (maxDischargeDepth := 16) [zY]
 refine hK _ _ ?_; clear hK K
 refine CW.seqK fun K hK => CW.region ?_
 simp (maxDischargeDepth := 16) [zY]
 refine call_sm k h1 k1_inj (by simp [nrmR, AV.nrm]) hk (by omega) fun _ => ?_
 simp (maxDischargeDepth := 16) [zY]
 refine hK _ _ (CW.ret (hR0 _ _ _ ⟨.agg [.lit (.int .u8 2), .lit (.string ⟨#[]⟩), .lit (.bool false), u1 k, .lit (.bool false)], by simp [zA, omap, zC, zX], done (by simp [AV.pln, limR_pln, plnR]) (by simp [AV.nrm, nrmR, limR_nrm, Atm.cs])⟩))
theorem lyes_w (hc : S.code = codeP Tryz.prog) (hm : S.ms 17 = []) : SmOk Tryz.prog S N 17 (fun _ : Unit => []) (fun _ => .agg tYes.cs) (fun _ => True) (fun _ => 0) 0 := by
 intro _ σ hk hN
 refine JC.startF (fn := Tryz.f17) (codeOf hc Tryz.func17 rfl (by kernel_rfl)) rfl hm rfl (zL rfl) fun tm => ?_
 refine CW.hide fun R0 hR0 => ?_
 refine CW.seqK fun K hK => CW.region ?_
 simp (maxDischargeDepth := 16) [zY]
 refine hK _ _ ?_; clear hK K
 refine CW.seqK fun K hK => CW.region ?_
 simp (maxDischargeDepth := 16) [zY]
 refine hK _ _ ?_; clear hK K
 exact CW.ret (hR0 _ _ _ ⟨.agg [.lit (.int .u8 3), .lit (.string ⟨#[]⟩), .lit (.bool false), .sl [] .full, .sl [] .full], by simp [zA, omap, zC, zX], done rfl rfl⟩)
theorem lbase_w (hc : S.code = codeP Tryz.prog) (hm : S.ms 16 = []) : SmOk Tryz.prog S N 16 (fun p : ByteArray × Trm => [.lit (.string p.1), .agg p.2.cs]) (fun p => .agg (yBase p.1 p.2).cs) (fun _ => True) (fun _ => 0) 0 := by
 rintro ⟨st, ⟨k, nm, ng, dg, ks⟩⟩ σ hk hN
 refine JC.startF (fn := Tryz.f16) (codeOf hc Tryz.func16 rfl (by kernel_rfl)) rfl hm rfl (zL rfl) fun tm => ?_
 refine CW.hide fun R0 hR0 => ?_
 simp only [Trm.cs]
 refine CW.seqK fun K hK => CW.region ?_
 simp (maxDischargeDepth := 16) [zY]
 refine hK _ _ ?_; clear hK K
 refine CW.seqK fun K hK => CW.region ?_
 simp (maxDischargeDepth := 16) [zY]
 refine hK _ _ ?_; clear hK K
 exact CW.ret (hR0 _ _ _ ⟨.agg [.lit (.bool false), .lit (.string st), .lit (.int .u8 k), .lit (.string nm), .lit (.bool ng), .sl (limR dg) .no, .sl (trmR ks) .no, .sl [] .full, .sl [] .full], by simp [zA, omap, zC, zX], done (by simp [AV.pln, limR_pln, trmR_pln, plnR, plnRR]) (by simp [AV.nrm, nrmR, nrmRR, limR_nrm, trmR_nrm, Ty.cs, prmR, tyR])⟩)
theorem ladd_w (hc : S.code = codeP Tryz.prog) (hm : S.ms 18 = []) : SmOk Tryz.prog S N 18 (fun p : Atm × Atm => [.agg p.1.cs, .agg p.2.cs]) (fun p => .agg (rAdd p.1 p.2).cs) (fun _ => True) (fun _ => 0) 0 := by
 rintro ⟨⟨k, nm, ng, dg, tr⟩, ⟨k2, nm2, ng2, dg2, tr2⟩⟩ σ hk hN
 refine JC.startF (fn := Tryz.f18) (codeOf hc Tryz.func18 rfl (by kernel_rfl)) rfl hm rfl (zL rfl) fun tm => ?_
 refine CW.hide fun R0 hR0 => ?_
 simp only [Atm.cs]
 refine CW.seqK fun K hK => CW.region ?_
 simp (maxDischargeDepth := 16) [zY]
 refine hK _ _ ?_; clear hK K
 refine CW.seqK fun K hK => CW.region ?_
 simp (maxDischargeDepth := 16) [zY]
 refine hK _ _ ?_; clear hK K
 exact CW.ret (hR0 _ _ _ ⟨.agg [.lit (.int .u8 2), .lit (.string tAdd), .sl [[.lit (.int .u8 k), .lit (.string nm), .lit (.bool ng), .sl (limR dg) .no, .lit (.bool tr)], [.lit (.int .u8 k2), .lit (.string nm2), .lit (.bool ng2), .sl (limR dg2) .no, .lit (.bool tr2)]] .full, .sl [] .full, .sl [] .full, .sl [] .full, .sl [] .full], by simp [zA, omap, zC, zX], done (by simp [AV.pln, limR_pln, plnR, plnRR]) (by simp [AV.nrm, nrmR, nrmRR, limR_nrm, Rhs.cs, prmR, tyR, atmR, expR, trmR, Atm.cs])⟩)
theorem lret_w (hc : S.code = codeP Tryz.prog) (hm : S.ms 20 = []) : SmOk Tryz.prog S N 20 (fun a : Atm => [.agg a.cs]) (fun a => .agg (eRet a).cs) (fun _ => True) (fun _ => 0) 0 := by
 rintro ⟨k, nm, ng, dg, tr⟩ σ hk hN
 refine JC.startF (fn := Tryz.f20) (codeOf hc Tryz.func20 rfl (by kernel_rfl)) rfl hm rfl (zL rfl) fun tm => ?_
 refine CW.hide fun R0 hR0 => ?_
 simp only [Atm.cs]
 refine CW.seqK fun K hK => CW.region ?_
 simp (maxDischargeDepth := 16) [zY]
 refine hK _ _ ?_; clear hK K
 refine CW.seqK fun K hK => CW.region ?_
 simp (maxDischargeDepth := 16) [zY]
 refine hK _ _ ?_; clear hK K
 exact CW.ret (hR0 _ _ _ ⟨.agg [.lit (.int .u8 2), .lit (.string ⟨#[]⟩), .sl [] .full, .sl [] .full, .lit (.int .u8 k), .lit (.string nm), .lit (.bool ng), .sl (limR dg) .no, .lit (.bool tr), .sl [] .full, .sl [] .full], by simp [zA, omap, zC, zX], done (by simp [AV.pln, limR_pln, plnR, plnRR]) (by simp [AV.nrm, nrmR, nrmRR, limR_nrm, Exp.cs, tyR, rhsR, armR, expR])⟩)
theorem llet_w (hc : S.code = codeP Tryz.prog) (hm : S.ms 15 = []) : SmOk Tryz.prog S N 15 (fun p : ByteArray × Ty × Rhs × Exp => [.lit (.string p.1), .agg p.2.1.cs, .agg p.2.2.1.cs, .agg p.2.2.2.cs]) (fun p => .agg (eLet p.1 p.2.1 p.2.2.1 p.2.2.2).cs) (fun _ => True) (fun _ => 0) 0 := by
 rintro ⟨nm, ⟨yfn, yst, ⟨yk, ynm, yng, ydg, yks⟩, yps, yrs⟩, ⟨rk, rnm, rats, rps, rrs, rbd, rts⟩, ⟨ek, enm, ety, erh, ⟨amk, amnm, amng, amdg, amtr⟩, ear, ebd⟩⟩ σ hk hN
 refine JC.startF (fn := Tryz.f15) (codeOf hc Tryz.func15 rfl (by kernel_rfl)) rfl hm rfl (zL rfl) fun tm => ?_
 refine CW.hide fun R0 hR0 => ?_
 simp only [Ty.cs, Rhs.cs, Exp.cs]
 refine CW.seqK fun K hK => CW.region ?_
 simp (maxDischargeDepth := 16) [zY]
 refine hK _ _ ?_; clear hK K
 refine CW.seqK fun K hK => CW.region ?_
 simp (maxDischargeDepth := 16) [zY]
 refine hK _ _ ?_; clear hK K
 exact CW.ret (hR0 _ _ _ ⟨.agg [.lit (.int .u8 1), .lit (.string nm), .sl [[.lit (.bool yfn), .lit (.string yst), .lit (.int .u8 yk), .lit (.string ynm), .lit (.bool yng), .sl (limR ydg) .no, .sl (trmR yks) .no, .sl (prmR yps) .no, .sl (tyR yrs) .no]] .full, .sl [[.lit (.int .u8 rk), .lit (.string rnm), .sl (atmR rats) .no, .sl (prmR rps) .no, .sl (tyR rrs) .no, .sl (expR rbd) .no, .sl (trmR rts) .no]] .full, .lit (.int .u8 0), .lit (.string ⟨#[]⟩), .lit (.bool false), .sl [] .full, .lit (.bool false), .sl [] .full, .sl [[.lit (.int .u8 ek), .lit (.string enm), .sl (tyR ety) .no, .sl (rhsR erh) .no, .lit (.int .u8 amk), .lit (.string amnm), .lit (.bool amng), .sl (limR amdg) .no, .lit (.bool amtr), .sl (armR ear) .no, .sl (expR ebd) .no]] .full], by simp [zA, omap, zC, zX], done (by simp [AV.pln, limR_pln, trmR_pln, prmR_pln, tyR_pln, atmR_pln, expR_pln, rhsR_pln, armR_pln, plnR, plnRR]) (by simp [AV.nrm, nrmR, nrmRR, limR_nrm, trmR_nrm, prmR_nrm, tyR_nrm, atmR_nrm, expR_nrm, rhsR_nrm, armR_nrm, Exp.cs, tyR, rhsR, armR, expR, Ty.cs, Rhs.cs, show limR [] = [] from rfl])⟩)
theorem lgreat_w (hc : S.code = codeP Tryz.prog) (hm : S.ms 6 = []) (h1 : S.sp 22 = some expsGoF) : SmOk Tryz.prog S N 6 (fun l : List Exp => [.sl (expR l) .no]) (fun l => .lit (.bool (decide (expsGo l 2000 0 > 2000)))) (fun l => l.length ≤ 140737488355328 ∧ expSm l) expN 8 := by
 intro l σ hk hN
 refine JC.startF (fn := Tryz.f6) (codeOf hc Tryz.func6 rfl (by kernel_rfl)) rfl hm rfl (zL rfl) fun tm => ?_
 refine CW.hide fun R0 hR0 => ?_
 refine CW.seqK fun K hK => CW.region ?_
 simp (maxDischargeDepth := 16) [zY]
 refine hK _ _ ?_; clear hK K
 refine CW.seqK fun K hK => CW.region ?_
 simp (maxDischargeDepth := 16) [zY]
 refine call_sm (l, 2000) h1 expsGo_inj (by simp only [nrmR, AV.nrm, expR_nrm]) hk (by dsimp only; omega) fun _ => ?_
 simp (maxDischargeDepth := 16) [zY]
 refine hK _ _ (CW.ret (hR0 _ _ _ ⟨.lit (.bool (decide (expsGo l 2000 0 > 2000))), by simp [zA, omap, zB, zF, lk], done0 rfl rfl⟩))
end
section
open Go.RowKit
variable {S : Sp} {N : Nat}
abbrev e0 : Exp := eLet tX (yBase tInt tYes) (rAdd (aV tY) (aN 1)) (eRet (aV tX))
abbrev f0 : Exp := eLet tX (yBase tInt tYes) (rAdd (aN 3) (aN 1)) (eRet (aV tX))
theorem put0 : (mkOf [tY] [aN 3]).putE e0 = f0 := by
 simp only [MkE.putE, MkE.putEs, MkE.putRs, MkE.putR, MkE.putMs, MkE.putYs, MkE.putY, MkE.putPs, MkE.putAs, List.map_cons, List.map_nil, EnvT.puts]
 rfl
theorem cnt0 : cntN [e0] = 5 := by rfl
theorem w0 : e0.w ≤ 100 := by decide
theorem n0 : e0.n ≤ 100 := by decide
theorem c0 : e0.c ≤ 100 := by decide
theorem free0 : setL (frE e0) = [tY] := by
 rw [setL_eq (l := [tY]) (by simp) fun s => ?_]
 · simp [sortB, strB]
 · simp [frE, frEs, frRs, frR, frMs, frYs, frY, frPs, frA, frT, namesT, namesTs]
   exact fun h _ h2 => absurd h2 h
theorem call_substE {P : Program} {args : List AV} {σ : Sto} {Q : ARes → Sto → Prop} (s : SubX) (h : S.sp 7 = some substEF) (ha : nrmR args = [.agg s.e.cs, .sl (txtR s.names) .no, .sl (atmR s.atoms) .no]) (hb : s.Pre) (hN : 16 * (s.m.W + s.e.n) + 15 < N)
    (hq : accW (S.E N) 7 args σ (.ret (.tup [.agg (s.m.putE s.e).cs, .lit (.int .i64 0)])) σ = .lcalls (fun _ => true) → Q (.ret (.tup [.agg (s.m.putE s.e).cs, .lit (.int .i64 0)])) σ) : CallW P (S.E N) 7 args σ Q :=
 call_sp s h substEF_uniq ha hb hN (hq (by have := acc_sp (σ := σ) s h substEF_uniq ha hN rfl (fun l => ⟨hb, rfl⟩); rw [kept_self] at this; exact this))
abbrev awakeF : FS := smF (fun _ : Unit => []) (fun _ => .lit (.bool true)) (fun _ => True) (fun _ => 1000) 0
theorem awake_w (hc : S.code = codeP Tryz.prog) (hm : S.ms 5 = []) (hV : S.sp 9 = some lvF) (hn : S.sp 19 = some lnF) (hY : S.sp 17 = some lyesF) (hB : S.sp 16 = some lbaseF) (hA : S.sp 18 = some laddF) (hR : S.sp 20 = some lretF) (hL : S.sp 15 = some lletF)
    (hS : S.sp 7 = some substEF) (hC : S.sp 13 = some countF) (hF : S.sp 14 = some treeFreeF) (hT : S.sp 21 = some (sameF (fun l => .sl (txtR l) .no) List.length 0)) (hE : S.sp 8 = some (sameF (fun t : Exp => .agg t.cs) Exp.n 9)) :
    SmOk Tryz.prog S N 5 (fun _ : Unit => []) (fun _ => .lit (.bool true)) (fun _ => True) (fun _ => 1000) 0 := by
 intro _ σ hk hN
 refine JC.startF (fn := Tryz.f5) (codeOf hc Tryz.func5 rfl (by kernel_rfl)) rfl hm rfl (zL rfl) fun tm => ?_
 refine CW.hide fun R0 hR0 => ?_
 replace hN : 16000 ≤ N := hN
 refine CW.seqK fun K hK => CW.region ?_
 simp (maxDischargeDepth := 16) [zY]
 refine hK _ _ ?_; clear hK K
 refine CW.seqK fun K hK => CW.region ?_
 simp (maxDischargeDepth := 16) [zY]
 refine call_sm () hY lyes_inj (by simp only [nrmR]) trivial (by omega) fun _ => ?_
 simp (maxDischargeDepth := 16) [zY]
 refine call_sm (tInt, tYes) hB lbase_inj (by simp only [nrmR, AV.nrm, Trm.nrm]) trivial (by omega) fun _ => ?_
 simp (maxDischargeDepth := 16) [zY]
 refine call_sm tY hV lv_inj (by simp only [nrmR, AV.nrm]) trivial (by omega) fun _ => ?_
 simp (maxDischargeDepth := 16) [zY]
 refine call_sm 1 hn k1_inj (by simp only [nrmR, AV.nrm]) (.inl rfl) (by omega) fun _ => ?_
 simp (maxDischargeDepth := 16) [zY]
 refine call_sm (aV tY, aN 1) hA ladd_inj (by simp only [nrmR, AV.nrm, Atm.nrm]) trivial (by omega) fun _ => ?_
 simp (maxDischargeDepth := 16) [zY]
 refine call_sm tX hV lv_inj (by simp only [nrmR, AV.nrm]) trivial (by omega) fun _ => ?_
 simp (maxDischargeDepth := 16) [zY]
 refine call_sm (aV tX) hR lret_inj (by simp only [nrmR, AV.nrm, Atm.nrm]) trivial (by omega) fun _ => ?_
 simp (maxDischargeDepth := 16) [zY]
 refine call_sm (tX, yBase tInt tYes, rAdd (aV tY) (aN 1), eRet (aV tX)) hL llet_inj (by simp only [nrmR, AV.nrm, Ty.nrm, Rhs.nrm, Exp.nrm]) trivial (by omega) fun _ => ?_
 have hn0 : e0.n ≤ 100 ∧ e0.c ≤ 100 ∧ e0.w ≤ 100 := ⟨n0, c0, w0⟩
 have hput := put0
 have hcnt : intV ((cntN [e0] : Nat) : Int) = .lit (.int .i64 5) := by rw [cnt0]; rfl
 have hfree := free0
 have hexp : expW [e0] = e0.w := by simp [expW]
 simp only [e0] at hn0 hput hcnt hfree hexp
 generalize he : eLet tX (yBase tInt tYes) (rAdd (aV tY) (aN 1)) (eRet (aV tX)) = e at hn0 hput hcnt hfree hexp ⊢
 simp (maxDischargeDepth := 16) [zY, Exp.len, Exp.tk, Exp.put]
 refine hK _ _ ?_; clear hK K
 refine CW.seqK fun K hK => CW.draw (by kernel_rfl) ?_
 simp (maxDischargeDepth := 16) [zY, Exp.len, Exp.tk, Exp.put]
 refine call_sm 3 hn k1_inj (by simp only [nrmR, AV.nrm]) (.inr rfl) (by omega) fun hac => ?_
 simp (maxDischargeDepth := 16) [zY, hac, Exp.len, Exp.tk, Exp.put, Atm.len, Atm.tk, Atm.put]
 refine call_substE ⟨e, [tY], [aN 3]⟩ hS (by simp [nrmR, AV.nrm, nrmRR, Exp.nrm, txtR, atmR, Atm.nrm]) ⟨⟨by show e.n ≤ _; omega, by show e.c ≤ _; omega⟩, by simp, by show 2 ≤ _; omega⟩ (by show 16 * (4 + e.n) + 15 < N; omega) fun hac2 => ?_
 dsimp only at hac2 ⊢
 have hf : (SubX.m ⟨e, [tY], [aN 3]⟩).putE e = f0 := hput
 rw [hf] at hac2 ⊢
 have hfn : f0.n ≤ 100 := by decide
 generalize hf0 : f0 = f at hfn hac2 hf ⊢
 simp (maxDischargeDepth := 16) [zY, hac2, Exp.len, Exp.tk, Exp.put]
 refine ⟨drawOk_sim [σ.length, σ.length + 1] [.reads 0, .pure, .lcalls (fun _ => true), .pure, .lcalls (fun _ => true), .pure, .pure, .pure, .news 1, .writes 1, .pure] (.cons (by simp) (.cons (by simp) .nil)) (.cons (.reads 0 _ rfl) (.cons .pure (.cons (.lcalls _ _ fun i a ha hi => rfl) (.cons .pure (.cons (.lcalls _ _ fun i a ha hi => rfl) (.cons .pure (.cons .pure (.cons .pure (.cons (.news 1 _ rfl) (.cons (.writes 1 _ rfl) (.cons .pure .nil))))))))))) (by kernel_rfl), hK _ _ ?_⟩; clear hK K
 refine CW.seqK fun K hK => CW.draw (by kernel_rfl) ?_
 simp (maxDischargeDepth := 16) [zY, Exp.len, Exp.tk, Exp.put]
 refine call_sm [e] hC lgreat_inj (by simp [nrmR, AV.nrm, nrmRR, Exp.nrm, expR]) (by rw [hexp]; omega) (by rw [hexp]; omega) fun hac => ?_
 rw [hcnt] at hac ⊢
 simp (maxDischargeDepth := 16) [zY, hac, Exp.len, Exp.tk, Exp.put]
 refine call_sm e hF (fun a b h => Exp.inj (by simpa using h)) (by simp [nrmR, AV.nrm, Exp.nrm]) (by omega) (by omega) fun hac => ?_
 rw [hfree] at hac ⊢
 simp (maxDischargeDepth := 16) [zY, hac, Exp.len, Exp.tk, Exp.put]
 refine call_same [tY] [tY] hT (sl_inj txtR_inj) (by simp [nrmR, AV.nrm, nrmRR, txtR]) (by simp) (by show 16 * 1 + 0 < N; omega) fun hac => ?_
 rw [eqb_self] at hac ⊢
 simp (maxDischargeDepth := 16) [zY, hac, Exp.len, Exp.tk, Exp.put]
 refine call_sm () hY lyes_inj (by simp only [nrmR]) trivial (by omega) fun hac => ?_
 simp (maxDischargeDepth := 16) [zY, hac]
 refine call_sm (tInt, tYes) hB lbase_inj (by simp only [nrmR, AV.nrm, Trm.nrm]) trivial (by omega) fun hac => ?_
 simp (maxDischargeDepth := 16) [zY, hac]
 refine call_sm 3 hn k1_inj (by simp only [nrmR, AV.nrm]) (.inr rfl) (by omega) fun hac => ?_
 simp (maxDischargeDepth := 16) [zY, hac]
 refine call_sm 1 hn k1_inj (by simp only [nrmR, AV.nrm]) (.inl rfl) (by omega) fun hac => ?_
 simp (maxDischargeDepth := 16) [zY, hac]
 refine call_sm (aN 3, aN 1) hA ladd_inj (by simp only [nrmR, AV.nrm, Atm.nrm]) trivial (by omega) fun hac => ?_
 simp (maxDischargeDepth := 16) [zY, hac]
 refine call_sm tX hV lv_inj (by simp only [nrmR, AV.nrm]) trivial (by omega) fun hac => ?_
 simp (maxDischargeDepth := 16) [zY, hac]
 refine call_sm (aV tX) hR lret_inj (by simp only [nrmR, AV.nrm, Atm.nrm]) trivial (by omega) fun hac => ?_
 simp (maxDischargeDepth := 16) [zY, hac]
 refine call_sm (tX, yBase tInt tYes, rAdd (aN 3) (aN 1), eRet (aV tX)) hL llet_inj (by simp only [nrmR, AV.nrm, Ty.nrm, Rhs.nrm, Exp.nrm]) trivial (by omega) fun hac => ?_
 dsimp only at hac ⊢
 rw [show eLet tX (yBase tInt tYes) (rAdd (aN 3) (aN 1)) (eRet (aV tX)) = f from hf0] at hac ⊢
 simp (maxDischargeDepth := 16) [zY, hac]
 refine call_same f f hE (agg_inj Exp.inj) (by simp [nrmR, AV.nrm, Exp.nrm]) (by omega) (by omega) fun hac => ?_
 rw [eqb_self] at hac ⊢
 simp (maxDischargeDepth := 16) [zY, hac]
 refine ⟨drawOk_sim [σ.length, σ.length + 1] [.reads 0, .pure, .lcalls (fun _ => true), .pure, .pure, .reads 0, .lcalls (fun _ => true), .pure, .lcalls (fun _ => true), .pure, .pure, .pure, .pure, .pure, .pure, .reads 1, .lcalls (fun _ => true), .lcalls (fun _ => true), .lcalls (fun _ => true), .lcalls (fun _ => true), .lcalls (fun _ => true), .lcalls (fun _ => true), .lcalls (fun _ => true), .lcalls (fun _ => true), .lcalls (fun _ => true), .pure, .pure] (.cons (by simp) (.cons (by simp) .nil)) (.cons (.reads 0 _ rfl) (.cons .pure (.cons (.lcalls _ _ fun i a ha hi => rfl) (.cons .pure (.cons .pure (.cons (.reads 0 _ rfl) (.cons (.lcalls _ _ fun i a ha hi => rfl) (.cons .pure (.cons (.lcalls _ _ fun i a ha hi => rfl) (.cons .pure (.cons .pure (.cons .pure (.cons .pure (.cons .pure (.cons .pure (.cons (.reads 1 _ rfl) (.cons (.lcalls _ _ fun i a ha hi => rfl) (.cons (.lcalls _ _ fun i a ha hi => rfl) (.cons (.lcalls _ _ fun i a ha hi => rfl) (.cons (.lcalls _ _ fun i a ha hi => rfl) (.cons (.lcalls _ _ fun i a ha hi => rfl) (.cons (.lcalls _ _ fun i a ha hi => rfl) (.cons (.lcalls _ _ fun i a ha hi => rfl) (.cons (.lcalls _ _ fun i a ha hi => rfl) (.cons (.lcalls _ _ fun i a ha hi => rfl) (.cons .pure (.cons .pure .nil))))))))))))))))))))))))))) (by kernel_rfl), hK _ _ ?_⟩; clear hK K
 refine CW.ret (hR0 _ _ _ ⟨.lit (.bool true), by simp [zA, omap, zB, zF, lk], done rfl rfl⟩)
end
end Go.Proofs.YtncoidmbmihliaaGreatDoor
