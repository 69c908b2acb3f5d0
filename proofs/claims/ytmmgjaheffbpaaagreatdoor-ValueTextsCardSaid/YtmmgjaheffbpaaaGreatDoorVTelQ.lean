/-
 EV: ValueTells at the statement's texts.
-/
import Derived.Test.YtmmgjaheffbpaaaGreatDoorRefLawQ
import Derived.Test.YtmmgjaheffbpaaaGreatDoorLentQ
namespace Go.Proofs.YtmmgjaheffbpaaaGreatDoor
set_option maxRecDepth 100000
set_option maxHeartbeats 8000000
set_option linter.unusedSimpArgs false
set_option linter.unusedVariables false
set_option linter.unusedSectionVars false
section
open Go.RowKit
variable {S : Sp} {N : Nat}
theorem one_still {a : AV} (h : still a) : ∀ d ∈ [a], still d := fun d hd => by rw [List.mem_singleton] at hd; subst hd; exact h
theorem two_still {a b : AV} (h : still a) (h2 : still b) : ∀ d ∈ [a, b], still d := fun d hd => by
 rcases List.mem_cons.1 hd with rfl | hd
 · exact h
 · exact one_still h2 d hd
theorem three_still {a b c : AV} (h : still a) (h2 : still b) (h3 : still c) : ∀ d ∈ [a, b, c], still d := fun d hd => by
 rcases List.mem_cons.1 hd with rfl | hd
 · exact h
 · exact two_still h2 h3 d hd
theorem rows_still (l : List Vl) : still (.sl (rowsV l) .no) := still_pn (rowsV_nrm l).2 (by rw [AV.nrm, (rowsV_nrm l).1])
abbrev awakeF : FS := smF (fun _ : Unit => []) (fun _ => .lit (.bool true)) (fun _ => True) (fun _ => 0) 0
theorem awake_w : SmOk Tryz.prog S N 4 (fun _ : Unit => []) (fun _ => .lit (.bool true)) (fun _ => True) (fun _ => 0) 0 :=
 fun _ σ _ _ => .semC (ev_tells ((awake_ev []).mono fun r σ' h => ⟨_, h.1, rfl, rfl⟩) (fun d hd => by cases hd) (still_lit _) σ)
abbrev datasF : FS := smF (fun b : Bool => [.sl (rowsD (dsB b)) .no, intV 300]) (fun b => intV (if b then 8 else 0)) (fun _ => True) (fun _ => 0) 0
theorem datas_w : SmOk Tryz.prog S N 9 (fun b : Bool => [.sl (rowsD (dsB b)) .no, intV 300]) (fun b => intV (if b then 8 else 0)) (fun _ => True) (fun _ => 0) 0 :=
 fun b σ _ _ => .semC (runIs_tells (datas_run b) (two_still (slD_still _) (still_lit _)) σ)
abbrev valsF : FS := smF (fun k : Nat => [.sl [rowV (zeroK k)] .no, intV 300]) (fun _ => intV 1) (fun k => k < 6) (fun _ => 0) 0
theorem vals_w : SmOk Tryz.prog S N 10 (fun k : Nat => [.sl [rowV (zeroK k)] .no, intV 300]) (fun _ => intV 1) (fun k => k < 6) (fun _ => 0) 0 :=
 fun k σ hk _ => .semC (runIs_tells (vals_run k hk) (two_still (rows_still [zeroK k]) (still_lit _)) σ)
theorem smallD_B (b : Bool) : smallD (dsB b) := by
 cases b <;> simp [dsB, dsL, smallD]
 rintro a b (⟨rfl, rfl⟩ | ⟨rfl, rfl⟩) <;> simp
theorem vparse_w : SmOk Tryz.prog S N 12 (fun p : Bool × Nat × Nat => [.sl (rowsD (dsB p.1)) .no, .lit (.string (bs (srtA p.2.1))), .lit (.string (bs (strA p.2.2)))]) (fun p => pvR p.1 p.2.1 p.2.2) (fun p => p.2.1 < 6 ∧ p.2.2 < 24) (fun _ => 0) 1 := by
 rintro ⟨b, k, i⟩ σ ⟨hk, hi⟩ hN
 dsimp only at hk hi ⊢
 refine .semC (ev_tells ((vparse_ev (dsB b) .no (smallD_B b) (srtA k) (strA i) [] (Nat.le_trans (strA_len hi) (by omega))).mono fun r σ' h => ?_) (three_still (slD_still _) (still_lit _) (still_lit _)) ?_ σ)
 · obtain ⟨⟨t1, t2, rfl⟩, _⟩ := h
   refine ⟨_, rfl, ?_, ?_⟩
   · rw [AV.pln, plnR, (aggV_nrm _ _ _).2]; rfl
   · rw [AV.nrm, nrmR, (aggV_nrm _ _ _).1]; rfl
 · exact still_tup (two_still (aggV_still _) (still_lit _))
theorem same_w : SmOk Tryz.prog S N 14 (fun v : Vl => [aggV v .no .no, aggV v .no .no]) (fun _ => .lit (.bool true)) (fun v => smallV v) (fun _ => 0) 0 :=
 fun v σ hv _ => .semC (ev_tells (((same_ev (SizeOf.sizeOf v + 1)).1 v .no .no .no .no [] (Nat.lt_succ_self _) hv).mono fun r σ' h => ⟨_, h.1, rfl, rfl⟩) (two_still (aggV_still _) (aggV_still _)) (still_lit _) σ)
theorem sameI_w : SmOk Tryz.prog S N 32 (fun p : Bool × List Int => [.agg [.lit (.bool p.1), .sl (limR p.2) .no], .agg [.lit (.bool p.1), .sl (limR p.2) .no]]) (fun p => .lit (.bool true)) (fun p => p.2 = []) (fun p => p.2.length) 1 := by
 rintro ⟨b, l⟩ σ hl hN
 dsimp only at hl
 subst hl
 have hst : still (.agg [.lit (.bool b), .sl [] .no]) := still_pn rfl rfl
 exact .semC (ev_tells ((sameInt_ev b [] .no .no [] (by simp)).mono fun r σ' h => ⟨_, h.1, rfl, rfl⟩) (two_still hst hst) (still_lit _) σ)
theorem txtK_val {k : Nat} : valText (zeroK k) = txtK k := by
 unfold zeroK
 rw [valText]
 unfold txtK
 split
 · unfold numText natText
   simp only [List.reverse_nil]
   rw [dec, dif_pos (by omega)]
   rfl
 · split
   · rfl
   · rfl
theorem zeroK_right (k : Nat) : rightV (zeroK k) := by
 rw [zeroK, rightV]
 exact ⟨by simp, fun _ => ⟨⟨by simp, rfl⟩, by simp⟩, trivial⟩
abbrev textKF : FS := smF (fun k : Nat => [val0 k]) (fun k => .lit (.string (bs (txtK k)))) (fun k => k < 6) (fun _ => 0) 0
theorem vtext_w : SmOk Tryz.prog S N 7 (fun k : Nat => [val0 k]) (fun k => .lit (.string (bs (txtK k)))) (fun k => k < 6) (fun _ => 0) 0 := by
 intro k σ hk hN
 refine .semC (ev_tells ((vtext_ev (zeroK k) .no .no [] (zeroK_right k) ?_).mono fun r σ' h => ⟨_, h.1, rfl, ?_⟩) (one_still (aggV_still (zeroK k))) (still_lit _) σ)
 · rw [txtK_val]; unfold txtK; split
   · simp
   · split
     · simp
     · split <;> simp
 · rw [txtK_val]; rfl
theorem rtext_w : SmOk Tryz.prog S N 15 (fun k : Nat => [val0 k]) (fun k => .lit (.string (bs (txtK k)))) (fun k => k < 6) (fun _ => 0) 0 :=
 fun k σ hk _ => .semC (runIs_tells (rtext_run k hk) (one_still (aggV_still (zeroK k))) σ)
abbrev sizeKF : FS := smF (fun k : Nat => [twoV k]) (fun _ => intV 2) (fun k => k < 6) (fun _ => 0) 0
theorem vsize_w : SmOk Tryz.prog S N 8 (fun k : Nat => [twoV k]) (fun _ => intV 2) (fun k => k < 6) (fun _ => 0) 0 :=
 fun k σ hk _ => .semC (runIs_tells (size_run k hk) (one_still (rows_still [zeroK k, zeroK k])) σ)
theorem rsize_w : SmOk Tryz.prog S N 16 (fun k : Nat => [twoV k]) (fun _ => intV 2) (fun k => k < 6) (fun _ => 0) 0 :=
 fun k σ hk _ => .semC (runIs_tells (rsize_run k hk) (one_still (rows_still [zeroK k, zeroK k])) σ)
theorem datas_inj (a b : Bool) (e : [AV.sl (rowsD (dsB a)) .no, intV 300] = [.sl (rowsD (dsB b)) .no, intV 300]) : intV (if a then 8 else 0) = intV (if b then 8 else 0) := by
 simp only [List.cons.injEq, AV.sl.injEq, and_true] at e
 rw [dsB_inj e]
theorem pv_inj (a b : Bool × Nat × Nat) (e : [AV.sl (rowsD (dsB a.1)) .no, .lit (.string (bs (srtA a.2.1))), .lit (.string (bs (strA a.2.2)))] = [.sl (rowsD (dsB b.1)) .no, .lit (.string (bs (srtA b.2.1))), .lit (.string (bs (strA b.2.2)))]) : pvR a.1 a.2.1 a.2.2 = pvR b.1 b.2.1 b.2.2 := by
 simp only [List.cons.injEq, AV.sl.injEq, AV.lit.injEq, Value.string.injEq, and_true] at e
 unfold pvR
 rw [dsB_inj e.1, bs_inj e.2.1, bs_inj e.2.2]
theorem k_inj (a b : Nat) (e : [val0 a] = [val0 b]) : a = b := by
 simp only [List.cons.injEq, AV.agg.injEq, AV.lit.injEq, Value.int.injEq, and_true, true_and] at e
 omega
theorem pv_small (b : Bool) (k i : Nat) (hi : i < 24) : smallV (parseV (dsB b) (srtA k) (strA i)).1 := by
 cases h : (parseV (dsB b) (srtA k) (strA i)).2 with
 | true => exact (parseV_law _ _ _ (Nat.le_trans (strA_len hi) (by omega)) h).2.2.1
 | false =>
  have : (parseV (dsB b) (srtA k) (strA i)).1 = zeroV := by
   unfold parseV at h ⊢
   split
   · rename_i he
     rw [if_pos he] at h
     split
     · rename_i t ht
       rw [ht] at h
       dsimp only at h
       split
       · rename_i hc
         rw [if_pos hc] at h; cases h
       · rfl
     · rfl
   · rfl
  rw [this]
  exact zeroK_small 0
theorem srtA_len {k : Nat} (h : k < 6) : (srtA k).length ≤ 100 := by
 have : (List.range 6).all (fun i => decide ((srtA i).length ≤ 100)) = true := by decide +kernel
 exact of_decide_eq_true (List.all_eq_true.1 this k (List.mem_range.2 h))
abbrev telF : FS := smF (fun p : Bool × Nat × Nat × Nat => [.sl (rowsD (dsB p.1)) .no, .lit (.string (bs (srtA p.2.1))), val0 p.2.2.1, .lit (.string (bs (strA p.2.2.2)))]) (fun _ => .lit (.bool true)) (fun p => p.2.1 < 6 ∧ p.2.2.1 < 6 ∧ p.2.2.2 < 24) (fun _ => 0) 4
theorem tells_w (hc : S.code = codeP Tryz.prog) (hm : S.ms 5 = []) (ha : S.sp 4 = some awakeF) (hd : S.sp 9 = some datasF) (hv : S.sp 10 = some valsF) (hle : S.sp 11 = some lentVF)
    (hp : S.sp 12 = some pvF) (hr : S.sp 13 = some pvF) (hs : S.sp 14 = some sameVF) (ht : S.sp 7 = some textKF) (hrt : S.sp 15 = some textKF) (hz : S.sp 8 = some sizeKF) (hrz : S.sp 16 = some sizeKF) (hke : S.sp 17 = some keptVF) :
    SmOk Tryz.prog S N 5 (fun p : Bool × Nat × Nat × Nat => [.sl (rowsD (dsB p.1)) .no, .lit (.string (bs (srtA p.2.1))), val0 p.2.2.1, .lit (.string (bs (strA p.2.2.2)))]) (fun _ => .lit (.bool true)) (fun p => p.2.1 < 6 ∧ p.2.2.1 < 6 ∧ p.2.2.2 < 24) (fun _ => 0) 4 := by
 rintro ⟨b, k, m, i⟩ σ ⟨hk, hmk, hi⟩ hN
 dsimp only at hk hmk hi hN ⊢
 have hN0 : 16 * 0 + 0 < N := by omega
 have hN1 : 16 * 0 + 1 < N := by omega
 have hN3 : 16 * 0 + 3 < N := by omega
 refine JC.startF (fn := Tryz.f5) (codeOf hc Tryz.func5 rfl (by kernel_rfl)) rfl hm rfl (zL rfl) fun tm => ?_
 refine CW.hide fun R0 hR0 => ?_
 have hsl := strA_len hi
 have hkl := srtA_len hk
 have hdn := (rowsD_nrm (dsB b)).1
 have hps := pv_small b k i hi
 refine CW.seqK fun K hK => CW.region ?_
 simp (maxDischargeDepth := 16) [zY]
 refine hK _ _ ?_; clear hK K
 refine CW.seqK fun K hK => CW.seqK fun K2 hK2 => CW.region ?_
 simp (maxDischargeDepth := 16) [zY]
 refine call_sm () ha (fun _ _ _ => rfl) (by simp [nrmR]) trivial hN0 fun _ => ?_
 simp (maxDischargeDepth := 16) [zY]
 refine hK2 _ _ ?_; clear hK2 K2
 refine CW.cond (t := false) (by simp [zT, zF, lk]) ?_
 refine CW.skip (hK _ _ ?_); clear hK K
 refine CW.seqK fun K hK => CW.seqK fun K2 hK2 => CW.region ?_
 simp (maxDischargeDepth := 16) [zY]
 refine call_smU b hd datas_inj (by simp [nrmR, AV.nrm, hdn]) trivial hN0 fun _ => ?_
 have h8 : (300 : Int) < (if b then 8 else 0) ↔ False := by cases b <;> simp
 have h9 : (2000 : Int) < ((strA i).length : Int) ↔ False := ⟨fun h => by omega, fun h => h.elim⟩
 have h10 : (300 : Int) < ((srtA k).length : Int) ↔ False := ⟨fun h => by omega, fun h => h.elim⟩
 simp (maxDischargeDepth := 16) [zY, h8]
 refine call_smU m hv (fun _ _ _ => rfl) (by simp only [nrmR, AV.nrm, nrmRR, limR, List.map_nil]; rfl) hmk hN0 fun _ => ?_
 simp (maxDischargeDepth := 16) [zY, bsz, h9, h10]
 refine hK2 _ _ ?_; clear hK2 K2
 refine CW.cond (t := false) (by simp [zT, zF, lk]) ?_
 refine CW.skip (hK _ _ ?_); clear hK K
 refine CW.keep [0, 1, 3, 6, 8] fun tm => ?_
 simp only [sel, List.contains_cons, List.contains_nil, Bool.or_false, Nat.reduceBEq, Bool.false_eq_true, if_false, if_true, Bool.or_true, Bool.true_or]
 refine CW.seqK fun K hK => CW.region ?_
 simp (maxDischargeDepth := 16) [zY]
 refine call_sm m hle k_inj (by simp only [nrmR, AV.nrm, nrmRR, limR, List.map_nil]; rfl) trivial hN3 fun _ => ?_
 simp (maxDischargeDepth := 16) [zY]
 refine hK _ _ ?_; clear hK K
 refine CW.keep [0, 1, 3, 6, 8, 9] fun tm => ?_
 simp only [sel, List.contains_cons, List.contains_nil, Bool.or_false, Nat.reduceBEq, Bool.false_eq_true, if_false, if_true, Bool.or_true, Bool.true_or]
 have hpv : pvR b k i = .tup [aggV (parseV (dsB b) (srtA k) (strA i)).1 .no .no, .lit (.bool (parseV (dsB b) (srtA k) (strA i)).2)] := rfl
 generalize parseV (dsB b) (srtA k) (strA i) = q at hpv hps
 obtain ⟨v, ok⟩ := q
 dsimp only at hpv hps
 have hvn := (aggV_nrm v .no .no).1
 obtain ⟨vk, vb, vd, vtt, vn, vf⟩ := v
 unfold aggV at hpv hvn
 dsimp only at hpv hvn
 refine CW.seqK fun K hK => CW.region ?_
 simp (maxDischargeDepth := 16) [zY]
 refine call_smU (b, k, i) hp pv_inj (by simp only [nrmR, AV.nrm, hdn]) ⟨hk, hi⟩ hN1 fun _ => ?_
 dsimp only
 rw [hpv]
 simp (maxDischargeDepth := 16) [zY]
 refine hK _ _ ?_; clear hK K
 refine CW.seqK fun K hK => CW.region ?_
 simp (maxDischargeDepth := 16) [zY]
 refine call_smU (b, k, i) hr pv_inj (by simp only [nrmR, AV.nrm, hdn]) ⟨hk, hi⟩ hN1 fun _ => ?_
 dsimp only
 rw [hpv]
 simp (maxDischargeDepth := 16) [zY]
 refine hK _ _ ?_; clear hK K
 refine CW.keep [6, 8, 9, 10, 11, 12, 13] fun tm => ?_
 simp only [sel, List.contains_cons, List.contains_nil, Bool.or_false, Nat.reduceBEq, Bool.false_eq_true, if_false, if_true, Bool.or_true, Bool.true_or]
 refine CW.seqK fun K hK => CW.draw (by kernel_rfl) ?_
 simp (maxDischargeDepth := 16) [zY]
 refine call_smU (.mk vk vb vd vtt vn vf) hs (fun _ _ _ => rfl) (by simp only [nrmR, hvn]; rfl) hps hN0 fun hac => ?_
 simp (maxDischargeDepth := 16) [zY, hac]
 refine call_smK m ht k_inj (by simp only [flatR, flatRR, AV.flat, limR, List.map_nil]; rfl) (fun q h => by simp [nrmR, AV.nrm] at h) hmk hN0 fun hac2 => ?_
 simp (maxDischargeDepth := 16) [zY, hac2]
 refine call_sm m hrt k_inj (by simp only [nrmR, AV.nrm, nrmRR, limR, List.map_nil]; rfl) hmk hN0 fun hac3 => ?_
 simp (maxDischargeDepth := 16) [zY, hac3]
 refine call_smKU m hz (fun _ _ _ => rfl) (by simp only [flatR, flatRR, AV.flat, limR, List.map_nil]; rfl) (fun q h => by simp [nrmR, nrmRR, AV.nrm, twoV, rowV, zeroK] at h) hmk hN0 fun hac4 => ?_
 simp (maxDischargeDepth := 16) [zY, hac4]
 refine call_smU m hrz (fun _ _ _ => rfl) (by simp only [nrmR, AV.nrm, nrmRR, limR, List.map_nil]; rfl) hmk hN0 fun hac5 => ?_
 simp (maxDischargeDepth := 16) [zY, hac5]
 refine call_smU m hke (fun _ _ _ => rfl) (by simp only [nrmR, AV.nrm, nrmRR, limR, List.map_nil]; rfl) trivial hN3 fun hac6 => ?_
 simp (maxDischargeDepth := 16) [zY, hac6]
 refine ⟨by kernel_rfl, hK _ _ ?_⟩
 refine CW.ret (hR0 _ _ _ ⟨.lit (.bool true), by simp [zA, omap, zB, zF, lk], done rfl rfl⟩)
end
section
open Go.RowKit
variable {S : Sp} {N : Nat}
theorem strR_A : ([[.lit (.string ⟨#[]⟩)], [.lit (.string ⟨#[53]⟩)], [.lit (.string ⟨#[45, 53]⟩)], [.lit (.string ⟨#[48, 53]⟩)], [.lit (.string ⟨#[116, 114, 117, 101]⟩)], [.lit (.string ⟨#[102, 97, 108, 115, 101]⟩)], [.lit (.string ⟨#[110, 105, 108]⟩)], [.lit (.string ⟨#[40, 110, 105, 108, 41]⟩)], [.lit (.string ⟨#[40, 41]⟩)], [.lit (.string ⟨#[40, 99, 111, 110, 115, 32, 49, 32, 40, 110, 105, 108, 41, 41]⟩)], [.lit (.string ⟨#[40, 99, 111, 110, 115, 32, 49, 32, 40, 41, 41]⟩)], [.lit (.string ⟨#[40, 99, 111, 110, 115, 32, 116, 114, 117, 101, 32, 40, 110, 105, 108, 41, 41]⟩)], [.lit (.string ⟨#[40, 99, 111, 110, 115, 32, 49, 41]⟩)], [.lit (.string ⟨#[40, 99, 111, 110, 115, 32, 49, 32, 40, 110, 105, 108, 41, 32, 50, 41]⟩)], [.lit (.string ⟨#[40, 111, 102, 32, 116, 114, 117, 101, 41]⟩)], [.lit (.string ⟨#[40, 111, 102, 32, 49, 41]⟩)], [.lit (.string ⟨#[40, 111, 102, 32, 40, 111, 102, 32, 116, 114, 117, 101, 41, 41]⟩)], [.lit (.string ⟨#[40, 40, 110, 105, 108, 41, 41]⟩)], [.lit (.string ⟨#[40, 53, 41]⟩)], [.lit (.string ⟨#[49, 32, 50]⟩)], [.lit (.string ⟨#[40, 99, 111, 110, 115, 32, 49, 32, 40, 99, 111, 110, 115, 32, 50, 32, 40, 99, 111, 110, 115, 32, 51, 32, 40, 110, 105, 108, 41, 41, 41, 41]⟩)], [.lit (.string ⟨#[40]⟩)], [.lit (.string ⟨#[120]⟩)], [.lit (.string ⟨#[40, 110, 111, 32, 49, 41]⟩)]] : List (List AV)) = strR strL := rfl
theorem srtR_A : ([[.lit (.string ⟨#[105, 110, 116]⟩)], [.lit (.string ⟨#[98, 111, 111, 108]⟩)], [.lit (.string ⟨#[108, 105, 115, 116]⟩)], [.lit (.string ⟨#[98]⟩)], [.lit (.string ⟨#[110, 111]⟩)], [.lit (.string ⟨#[]⟩)]] : List (List AV)) = strR srtL := rfl
def dsT : List (List AV) := [[.lit (.string ⟨#[108, 105, 115, 116]⟩), .sl [[.lit (.string ⟨#[110, 105, 108]⟩), .sl [] .full], [.lit (.string ⟨#[99, 111, 110, 115]⟩), .sl [[.lit (.string ⟨#[105, 110, 116]⟩)], [.lit (.string ⟨#[108, 105, 115, 116]⟩)]] .full]] .full], [.lit (.string ⟨#[98]⟩), .sl [[.lit (.string ⟨#[111, 102]⟩), .sl [[.lit (.string ⟨#[98, 111, 111, 108]⟩)]] .full]] .full]]
theorem dsT_A : ([[.lit (.string ⟨#[108, 105, 115, 116]⟩), .sl [[.lit (.string ⟨#[110, 105, 108]⟩), .sl [] .full], [.lit (.string ⟨#[99, 111, 110, 115]⟩), .sl [[.lit (.string ⟨#[105, 110, 116]⟩)], [.lit (.string ⟨#[108, 105, 115, 116]⟩)]] .full]] .full], [.lit (.string ⟨#[98]⟩), .sl [[.lit (.string ⟨#[111, 102]⟩), .sl [[.lit (.string ⟨#[98, 111, 111, 108]⟩)]] .full]] .full]] : List (List AV)) = dsT := rfl
theorem dsT_nrm : nrmRR dsT = rowsD (dsB true) := rfl
theorem strA_get {i : Nat} (h : i < 24) : (strR strL)[i]? = some [.lit (.string (bs (strA i)))] := by
 have hl : i < strL.length := h
 rw [strR_get hl]; unfold strA; rw [List.getD_eq_getElem?_getD, List.getElem?_eq_getElem hl]; rfl
theorem srtA_get {i : Nat} (h : i < 6) : (strR srtL)[i]? = some [.lit (.string (bs (srtA i)))] := by
 have hl : i < srtL.length := h
 rw [strR_get hl]; unfold srtA; rw [List.getD_eq_getElem?_getD, List.getElem?_eq_getElem hl]; rfl
abbrev textsF : FS := smF (fun _ : Unit => []) (fun _ => .lit (.bool true)) (fun _ => True) (fun _ => 0) 5
theorem texts_w (hc : S.code = codeP Tryz.prog) (hm : S.ms 3 = []) (ha : S.sp 4 = some awakeF) (ht : S.sp 5 = some telF) :
    SmOk Tryz.prog S N 3 (fun _ : Unit => []) (fun _ => .lit (.bool true)) (fun _ => True) (fun _ => 0) 5 := by
 intro _ σ hk hN
 have hN0 : 16 * 0 + 0 < N := by omega
 have hN4 : 16 * 0 + 4 < N := by omega
 refine JC.startF (fn := Tryz.f3) (codeOf hc Tryz.func3 rfl (by kernel_rfl)) rfl hm rfl (zL rfl) fun tm => ?_
 refine CW.hide fun R0 hR0 => ?_
 refine CW.seqK fun K hK => CW.region ?_
 simp (maxDischargeDepth := 16) [zY]
 refine hK _ _ ?_; clear hK K
 refine CW.seqK fun K hK => CW.seqK fun K2 hK2 => CW.region ?_
 simp (maxDischargeDepth := 16) [zY]
 refine call_sm () ha (fun _ _ _ => rfl) (by simp [nrmR]) trivial hN0 fun _ => ?_
 simp (maxDischargeDepth := 16) [zY]
 refine hK2 _ _ ?_; clear hK2 K2
 refine CW.cond (t := false) (by simp [zT, zF, lk]) ?_
 refine CW.skip (hK _ _ ?_); clear hK K
 refine CW.seqK fun K hK => CW.region ?_
 simp (maxDischargeDepth := 16) [zY]
 rw [dsT_A]
 refine hK _ _ ?_; clear hK K
 refine CW.keep [0, 1] fun tm => ?_
 simp only [sel, List.contains_cons, List.contains_nil, Bool.or_false, Nat.reduceBEq, Bool.false_eq_true, if_false, if_true, Bool.or_true, Bool.true_or]
 refine CW.seqK fun K hK => CW.region ?_
 simp (maxDischargeDepth := 16) [zY]
 rw [strR_A]
 refine hK _ _ ?_; clear hK K
 refine CW.keep [0, 1, 2] fun tm => ?_
 simp only [sel, List.contains_cons, List.contains_nil, Bool.or_false, Nat.reduceBEq, Bool.false_eq_true, if_false, if_true, Bool.or_true, Bool.true_or]
 refine CW.seqK fun K hK => CW.region ?_
 simp (maxDischargeDepth := 16) [zY]
 rw [srtR_A]
 refine hK _ _ ?_; clear hK K
 refine CW.keep [0, 1, 2, 3] fun tm => ?_
 simp only [sel, List.contains_cons, List.contains_nil, Bool.or_false, Nat.reduceBEq, Bool.false_eq_true, if_false, if_true, Bool.or_true, Bool.true_or]
 have hl1 : (strR strL).length = 24 := rfl
 have hl2 : (strR srtL).length = 6 := rfl
 have hg1 := fun i => strA_get (i := i)
 have hg2 := fun i => srtA_get (i := i)
 generalize strR strL = L at *
 generalize strR srtL = T at *
 have hD := dsT_nrm
 generalize dsT = D at *
 refine CW.seqK fun KL hKL => ?_
 refine CW.seqK fun K hK => CW.region ?_
 simp (maxDischargeDepth := 16) [zY]
 refine hK _ _ ?_; clear hK K
 refine CW.block (CW.hide fun R1 hR1 => ?_)
 refine CW.loopF (fun p : Nat => [(0, .lit (.bool false)), (1, .sl D .full), (2, .sl L .full), (3, .sl T .full), (4, intV p)]) (fun _ => σ) (fun p => p ≤ 24) (fun p => 24 - p) 0 (by simp [sub, lk]) rfl (Nat.zero_le _) ?_
 intro i tm hi
 refine CW.hide fun R2 hR2 => CW.seqK fun K3 hK3 => CW.seqK fun K4 hK4 => CW.region ?_
 rcases Nat.lt_or_ge i 24 with hlt | hge
 rotate_left
 · obtain rfl : i = 24 := by omega
   simp (maxDischargeDepth := 16) [zY, hl1]
   refine hK4 _ _ ?_
   refine CW.cond (t := false) (by simp [zT, zF, lk]) ?_
   refine CW.exit (hR2 _ _ _ (hR1 _ _ _ ?_))
   simp only [outOf, if_true, andThen]
   refine hKL _ _ ?_
   refine CW.seqK fun K hK => CW.region ?_
   simp (maxDischargeDepth := 16) [zY]
   refine hK _ _ ?_; clear hK K
   exact CW.ret (hR0 _ _ _ ⟨.lit (.bool true), by simp [zA, omap, zB, zF, lk], done0 rfl rfl⟩)
 have hlt' : ((i : Int) < 24) = True := eq_true (by omega)
 have hgi := hg1 i hlt
 simp (maxDischargeDepth := 16) [zY, hlt', hl1]
 refine hK4 _ _ ?_
 refine CW.cond (t := true) (by simp [zT, zF, lk]) ?_
 refine CW.skip (hK3 _ _ ?_); clear hK3 K3 hK4 K4
 refine CW.seqK fun K5 hK5 => CW.block ?_
 refine CW.seqK fun K hK => CW.region ?_
 simp (maxDischargeDepth := 16) [zY]
 refine hK _ _ ?_; clear hK K
 refine CW.block (CW.hide fun R3 hR3 => ?_)
 refine CW.loopF (fun p : Nat => [(0, .lit (.bool false)), (1, .sl D .full), (2, .sl L .full), (3, .sl T .full), (4, intV i), (5, intV p)]) (fun _ => σ) (fun p => p ≤ 6) (fun p => 6 - p) 0 (by simp [sub, lk]) rfl (Nat.zero_le _) ?_
 intro k tm hk
 refine CW.hide fun R4 hR4 => CW.seqK fun K3 hK3 => CW.seqK fun K4 hK4 => CW.region ?_
 rcases Nat.lt_or_ge k 6 with hkl | hkg
 rotate_left
 · obtain rfl : k = 6 := by omega
   simp (maxDischargeDepth := 16) [zY, hl2]
   refine hK4 _ _ ?_
   refine CW.cond (t := false) (by simp [zT, zF, lk]) ?_
   refine CW.exit (hR4 _ _ _ (hR3 _ _ _ ?_))
   simp only [outOf, if_true, andThen]
   refine hK5 _ _ ?_
   refine CW.region ?_
   simp (maxDischargeDepth := 16) [zY, wrap_succ (show i ≤ 1000000000000 by omega)]
   exact hR2 _ _ _ ⟨i + 1, _, _, rfl, by simp [sub, lk], rfl, hlt, by show 24 - (i + 1) < 24 - i; omega⟩
 have hkl' : ((k : Int) < 6) = True := eq_true (by omega)
 have hgk := hg2 k hkl
 have hcv : IntKind.u8.wrap (k : Int) = (k : Int) := by rw [IntKind.wrap_u8]; omega
 simp (maxDischargeDepth := 16) [zY, hkl', hl2]
 refine hK4 _ _ ?_
 refine CW.cond (t := true) (by simp [zT, zF, lk]) ?_
 refine CW.skip (hK3 _ _ ?_); clear hK3 K3 hK4 K4
 refine CW.seqK fun K6 hK6 => CW.block ?_
 refine CW.seqK fun K7 hK7 => CW.draw (by kernel_rfl) ?_
 simp (maxDischargeDepth := 16) [zY, hgk, hgi, hcv]
 refine call_smU (true, k, k, i) ht (fun _ _ _ => rfl) (by simp only [nrmR, AV.nrm, hD, nrmRR]; rfl) ⟨hkl, hkl, hlt⟩ hN4 fun hac => ?_
 simp (maxDischargeDepth := 16) [zY, hac, hgk, hgi]
 refine call_smU (false, k, 0, i) ht (fun _ _ _ => rfl) (by simp only [nrmR, AV.nrm, nrmRR]; rfl) ⟨hkl, (show 0 < 6 by decide), hlt⟩ hN4 fun hac2 => ?_
 simp (maxDischargeDepth := 16) [zY, hac2]
 refine ⟨by kernel_rfl, hK7 _ _ ?_⟩; clear hK7 K7
 refine CW.cond (t := false) (by simp [zT, zF, lk]) ?_
 refine CW.skip ?_
 simp only [outOf, andThen]
 refine hK6 _ _ ?_
 refine CW.region ?_
 simp (maxDischargeDepth := 16) [zY, wrap_succ (show k ≤ 1000000000000 by omega)]
 exact hR4 _ _ _ ⟨k + 1, _, _, rfl, by simp [sub, lk], rfl, hkl, by show 6 - (k + 1) < 6 - k; omega⟩
end
section
set_option maxRecDepth 100000
open Go.RowKit
def look : List (FuncId × FS) → FuncId → Option FS
 | [], _ => none
 | p :: l, f => cond (Nat.beq p.1 f) (some p.2) (look l f)
def lookB : List (FuncId × (List AV → Sto → Option (ARes × Sto))) → FuncId → Option (List AV → Sto → Option (ARes × Sto))
 | [], _ => none
 | p :: l, f => cond (Nat.beq p.1 f) (some p.2) (lookB l f)
def lookM : List (FuncId × List TypeId) → FuncId → List TypeId
 | [], _ => []
 | p :: l, f => cond (Nat.beq p.1 f) p.2 (lookM l f)
theorem look_mem : ∀ {l : List (FuncId × FS)} {f : FuncId} {s : FS}, look l f = some s → (f, s) ∈ l
 | p :: l, f, s, h => by
  rw [look] at h
  cases hb : Nat.beq p.1 f with
  | true => rw [hb] at h; cases Nat.eq_of_beq_eq_true hb; cases h; exact .head _
  | false => rw [hb] at h; exact .tail _ (look_mem h)
theorem lookB_mem : ∀ {l : List (FuncId × (List AV → Sto → Option (ARes × Sto)))} {f : FuncId} {s}, lookB l f = some s → (f, s) ∈ l
 | p :: l, f, s, h => by
  rw [lookB] at h
  cases hb : Nat.beq p.1 f with
  | true => rw [hb] at h; cases Nat.eq_of_beq_eq_true hb; cases h; exact .head _
  | false => rw [hb] at h; exact .tail _ (lookB_mem h)
noncomputable def spT : List (FuncId × FS) := [
 (4, awakeF),
 (9, datasF),
 (10, valsF),
 (73, markF),
 (44, lentLF),
 (24, lentIF),
 (74, markTF),
 (45, markVF),
 (25, lentV0F),
 (11, lentVF),
 (12, pvF),
 (29, lexF),
 (30, readF),
 (31, ofF),
 (13, pvF),
 (14, sameVF),
 (7, textKF),
 (15, textKF),
 (8, sizeKF),
 (16, sizeKF),
 (32, sameIF),
 (63, keptLF),
 (35, keptIF),
 (36, keptV0F),
 (17, keptVF),
 (5, telF),
 (3, textsF)]
noncomputable def spB : List (FuncId × (List AV → Sto → Option (ARes × Sto))) := []
def spM : List (FuncId × List TypeId) := []
noncomputable def SP : Sp := { code := codeP Tryz.prog, ms := lookM spM, base := lookB spB, sp := look spT }
theorem mixed : Tryz.prog.follows .mixedOrders = true := by kernel_rfl
def OkE (f : FuncId) (s : FS) : Prop := ∀ N, EnvOk Tryz.prog (SP.E N) → ∀ (a : s.α) (σ : Sto), s.pre a σ → s.sz a ≤ N → s.Ok Tryz.prog f a σ
theorem ok_sm {f : FuncId} {α : Type} {A : α → List AV} {R : α → AV} {p : α → Prop} {n : α → Nat} {r : Nat} (h : ∀ N, SmOk Tryz.prog SP N f A R p n r) : OkE f (smF A R p n r) := fun N hE a σ hp hN => J.tells mixed hE (h N a σ hp hN)
theorem spw_0 : OkE 4 (awakeF) := ok_sm fun N => awake_w (S := SP) (N := N)
theorem spw_1 : OkE 9 (datasF) := ok_sm fun N => datas_w (S := SP) (N := N)
theorem spw_2 : OkE 10 (valsF) := ok_sm fun N => vals_w (S := SP) (N := N)
theorem spw_3 : OkE 73 (markF) := ok_sm fun N => mark_w (S := SP) (N := N) rfl (by kernel_rfl)
theorem spw_4 : OkE 44 (lentLF) := ok_sm fun N => LentLimbs_w (S := SP) (N := N) rfl (by kernel_rfl) (by kernel_rfl)
theorem spw_5 : OkE 24 (lentIF) := ok_sm fun N => LentInt_w (S := SP) (N := N) rfl (by kernel_rfl) (by kernel_rfl)
theorem spw_6 : OkE 74 (markTF) := ok_sm fun N => markText_w (S := SP) (N := N) rfl (by kernel_rfl)
theorem spw_7 : OkE 45 (markVF) := ok_sm fun N => markValue_w (S := SP) (N := N) rfl (by kernel_rfl) (by kernel_rfl)
theorem spw_8 : OkE 25 (lentV0F) := ok_sm fun N => LentValuesN_w (S := SP) (N := N) rfl (by kernel_rfl) (by kernel_rfl)
theorem spw_9 : OkE 11 (lentVF) := ok_sm fun N => LentValue_w (S := SP) (N := N) rfl (by kernel_rfl) (by kernel_rfl) (by kernel_rfl)
theorem spw_10 : OkE 12 (pvF) := ok_sm fun N => vparse_w (S := SP) (N := N)
theorem spw_11 : OkE 29 (lexF) := ok_sm fun N => lexRef_w (S := SP) (N := N)
theorem spw_12 : OkE 30 (readF) := ok_sm fun N => read_w (S := SP) (N := N)
theorem spw_13 : OkE 31 (ofF) := ok_sm fun N => of_w (S := SP) (N := N)
theorem spw_14 : OkE 13 (pvF) := ok_sm fun N => vRef_w (S := SP) (N := N) rfl (by kernel_rfl) (by kernel_rfl) (by kernel_rfl) (by kernel_rfl)
theorem spw_15 : OkE 14 (sameVF) := ok_sm fun N => same_w (S := SP) (N := N)
theorem spw_16 : OkE 7 (textKF) := ok_sm fun N => vtext_w (S := SP) (N := N)
theorem spw_17 : OkE 15 (textKF) := ok_sm fun N => rtext_w (S := SP) (N := N)
theorem spw_18 : OkE 8 (sizeKF) := ok_sm fun N => vsize_w (S := SP) (N := N)
theorem spw_19 : OkE 16 (sizeKF) := ok_sm fun N => rsize_w (S := SP) (N := N)
theorem spw_20 : OkE 32 (sameIF) := ok_sm fun N => sameI_w (S := SP) (N := N)
theorem spw_21 : OkE 63 (keptLF) := ok_sm fun N => KeptLimbs_w (S := SP) (N := N) rfl (by kernel_rfl) (by kernel_rfl)
theorem spw_22 : OkE 35 (keptIF) := ok_sm fun N => KeptInt_w (S := SP) (N := N) rfl (by kernel_rfl) (by kernel_rfl) (by kernel_rfl)
theorem spw_23 : OkE 36 (keptV0F) := ok_sm fun N => KeptValuesN_w (S := SP) (N := N) rfl (by kernel_rfl) (by kernel_rfl) (by kernel_rfl)
theorem spw_24 : OkE 17 (keptVF) := ok_sm fun N => KeptValue_w (S := SP) (N := N) rfl (by kernel_rfl) (by kernel_rfl) (by kernel_rfl) (by kernel_rfl)
theorem spw_25 : OkE 5 (telF) := ok_sm fun N => tells_w (S := SP) (N := N) rfl (by kernel_rfl) (by kernel_rfl) (by kernel_rfl) (by kernel_rfl) (by kernel_rfl) (by kernel_rfl) (by kernel_rfl) (by kernel_rfl) (by kernel_rfl) (by kernel_rfl) (by kernel_rfl) (by kernel_rfl) (by kernel_rfl)
theorem spw_26 : OkE 3 (textsF) := ok_sm fun N => texts_w (S := SP) (N := N) rfl (by kernel_rfl) (by kernel_rfl) (by kernel_rfl)
def AllE : List (FuncId × FS) → Prop
 | [] => True
 | p :: l => OkE p.1 p.2 ∧ AllE l
theorem AllE.mem : ∀ {l : List (FuncId × FS)}, AllE l → ∀ p ∈ l, OkE p.1 p.2
 | q :: l, h, p, hp => by
  rcases List.mem_cons.1 hp with rfl | hp
  · exact h.1
  · exact AllE.mem h.2 p hp
theorem all_ok : AllE spT := ⟨spw_0, spw_1, spw_2, spw_3, spw_4, spw_5, spw_6, spw_7, spw_8, spw_9, spw_10, spw_11, spw_12, spw_13, spw_14, spw_15, spw_16, spw_17, spw_18, spw_19, spw_20, spw_21, spw_22, spw_23, spw_24, spw_25, spw_26, trivial⟩
def AllB : List (FuncId × (List AV → Sto → Option (ARes × Sto))) → Prop
 | [] => True
 | p :: l => (CallSound Tryz.prog fun f' args σ => if f' = p.1 then p.2 args σ else none) ∧ AllB l
theorem AllB.mem : ∀ {l : List (FuncId × (List AV → Sto → Option (ARes × Sto)))}, AllB l → ∀ p ∈ l, CallSound Tryz.prog fun f' args σ => if f' = p.1 then p.2 args σ else none
 | q :: l, h, p, hp => by
  rcases List.mem_cons.1 hp with rfl | hp
  · exact h.1
  · exact AllB.mem h.2 p hp
theorem all_b : AllB spB := trivial
theorem SP_ok : ∀ N, EnvOk Tryz.prog (SP.E N) := Sp.ok (fun f fn h => codeP_ok f fn h) (fun f g h => all_b.mem (f, g) (lookB_mem h)) fun N hE f s h a σ hp hN => all_ok.mem (f, s) (look_mem h) N hE a σ hp hN
end
section
open Go.RowKit
section
variable {H : Type} (P : Program)
def wfFields (g : TypeId → DataW H → Prop) : List Field → List (DataW H) → Prop
 | f :: fs, d :: ds => g f.type d ∧ wfFields g fs ds
 | _, _ => True
def wfD : Nat → TypeId → DataW H → Prop
 | 0, _, _ => True
 | n + 1, t, d =>
  match P.underlying t, d with
  | some (.int k), .lit (.int k' m) => k' = k ∧ (Lit.int k m).wf = true
  | some (.slice e), .slice elems _ => ∀ x ∈ elems, wfD n e x
  | some (.struct fs), .agg parts => wfFields (wfD n) fs.toList parts
  | _, _ => True
end
section
variable {H : Type} {enc : TypeId × Value → H} {P : Program} {w : World}
theorem wfFields_of {n : Nat} {cs : List Value} (ih : ∀ (t : TypeId) (c : List Value) (d : DataW H) (ps : List MemPlace), DataW.trod enc P w 0 (fun _ => true) true n t c = some (d, ps) → wfD P n t d) :
    ∀ (fs : List Field) (xs : List (DataW H × List MemPlace)), omap (fun f : Field => DataW.trod enc P w 0 (fun _ => true) true n f.type ((cs.drop f.offset).take (P.cellsOf f.type))) fs = some xs → wfFields (wfD P n) fs (xs.map (·.1))
 | [], xs, h => by
  simp [omap] at h; subst h; trivial
 | f :: fs, xs, h => by
  rw [omap] at h
  split at h
  · rename_i b bs h1 h2
    cases h
    obtain ⟨d, ps⟩ := b
    exact ⟨ih f.type _ d ps h1, wfFields_of ih fs bs h2⟩
  · cases h
theorem trod_wf : ∀ (n : Nat) (t : TypeId) (c : List Value) (d : DataW H) (ps : List MemPlace), DataW.trod enc P w 0 (fun _ => true) true n t c = some (d, ps) → wfD P n t d
 | 0, t, c, d, ps, h => trivial
 | n + 1, t, c, d, ps, h => by
  rw [DataW.trod_step] at h
  unfold DataW.trodStep at h
  split at h
  case h_2 k k' m hu =>
   split at h
   · rename_i hc
     obtain ⟨rfl, hw⟩ := hc
     cases h
     unfold wfD
     simp only [hu]
     exact ⟨trivial, hw⟩
   · cases h
  case h_8 e a len cap hu =>
   dsimp only at h
   split at h
   · rw [Option.bind_eq_some_iff] at h
     obtain ⟨els, h1, h2⟩ := h
     rw [Option.map_eq_some_iff] at h2
     obtain ⟨rest, h2, h3⟩ := h2
     cases h3
     unfold wfD
     simp only [hu]
     intro x hx
     obtain ⟨y, hy, rfl⟩ := List.mem_map.1 hx
     rw [← omap_mapM] at h1
     obtain ⟨i, hi⟩ := List.getElem?_of_mem hy
     obtain ⟨i', e1, e2⟩ := omap_get h1 i y hi
     rw [Option.bind_eq_some_iff] at e2
     obtain ⟨c', f1, f2⟩ := e2
     exact trod_wf n e c' y.1 y.2 f2
   · cases h
  case h_9 fs hu =>
   split at h
   · rw [Option.map_eq_some_iff] at h
     obtain ⟨xs, h1, h2⟩ := h
     cases h2
     rw [← omap_mapM] at h1
     unfold wfD
     simp only [hu]
     exact wfFields_of (fun t c d ps h => trod_wf n t c d ps h) fs.toList xs h1
   · cases h
  all_goals
   unfold wfD
   split
   all_goals first
    | trivial
    | (simp_all; done)
end
end
end Go.Proofs.YtmmgjaheffbpaaaGreatDoor
