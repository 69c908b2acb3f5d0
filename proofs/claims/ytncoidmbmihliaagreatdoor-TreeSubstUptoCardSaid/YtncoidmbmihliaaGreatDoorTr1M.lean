/-
 EV: the package tree: what is put for atoms, and for terms.
-/
import Derived.Test.YtncoidmbmihliaaGreatDoorTm3M
namespace Go.Proofs.YtncoidmbmihliaaGreatDoor
set_option maxRecDepth 100000
set_option maxHeartbeats 8000000
set_option linter.unusedSimpArgs false
set_option linter.unusedVariables false
open Go.RowKit
variable {S : Sp} {N : Nat}
abbrev copAF : FS := pureF (fun a : Atm => [.agg a.cs]) (fun a => .agg a.cs) Atm.n 1
theorem atm1_inj (a b : Atm) (e : [AV.agg a.cs] = [.agg b.cs]) : a = b := by simp only [List.cons.injEq, and_true, AV.agg.injEq] at e; exact Atm.inj e
theorem copA_w (hc : S.code = codeP Tryz.prog) (hm : S.ms 26 = []) (h1 : S.sp 55 = some limF) : PureOk Tryz.prog S N 26 (fun a : Atm => [.agg a.cs]) (fun a => .agg a.cs) Atm.n 1 := by
 intro a σ hl hN
 refine JC.startF (fn := Tryz.f26) (codeOf hc Tryz.func26 rfl (by kernel_rfl)) rfl hm rfl (zL rfl) fun tm => ?_
 refine CW.hide fun R0 hR0 => ?_
 obtain ⟨k, nm, ng, dg, tr⟩ := a
 simp only [Atm.n] at hl hN
 simp only [Atm.cs]
 refine CW.seqK fun K hK => CW.region ?_
 simp (maxDischargeDepth := 16) [zY]
 refine hK _ _ ?_; clear hK K
 refine CW.seqK fun K hK => CW.region ?_
 simp (maxDischargeDepth := 16) [zY]
 refine call_pure dg h1 lim1_inj (by simp only [nrmR, AV.nrm, limR_nrm]) (by omega) (by omega) fun _ => ?_
 simp (maxDischargeDepth := 16) [zY]
 refine hK _ _ ?_; clear hK K
 refine CW.seqK fun K hK => CW.region ?_
 simp (maxDischargeDepth := 16) [zY]
 refine hK _ _ ?_; clear hK K
 exact CW.ret (hR0 _ _ _ ⟨.agg [.lit (.int .u8 k), .lit (.string nm), .lit (.bool ng), .sl (limR dg) .no, .lit (.bool tr)], by simp [zA, omap, zC, zX], done (by simp [AV.pln, plnR]) (by simp [AV.nrm, nrmR, Atm.cs])⟩)
structure A2 where
 nid : Nat
 nmid : Nat
 aid : Nat
 names : List ByteArray
 atoms : List Atm
abbrev A2.k (m : A2) : Nat := min m.names.length m.atoms.length
def A2.At (m : A2) (σ : Sto) : Prop := σ[m.nid]? = some (.cells [intV m.k] 3) ∧ σ[m.nmid]? = some (.cells [.sl (txtR m.names) .no] 35) ∧ σ[m.aid]? = some (.cells [.sl (atmR m.atoms) .no] 36) ∧ m.names.length ≤ 1000000000 ∧ atmN m.atoms ≤ 100000000
theorem A2.At.app {m : A2} {σ : Sto} (h : m.At σ) (l : Sto) : m.At (σ ++ l) := by
 obtain ⟨h1, h2, h3, h4⟩ := h
 exact ⟨(st_old (List.getElem?_eq_some_iff.1 h1).1).trans h1, (st_old (List.getElem?_eq_some_iff.1 h2).1).trans h2, (st_old (List.getElem?_eq_some_iff.1 h3).1).trans h3, h4⟩
theorem A2.uniq {a b : A2} {σ : Sto} (h1 : a.nid = b.nid) (h2 : a.nmid = b.nmid) (h3 : a.aid = b.aid) (ha : a.At σ) (hb : b.At σ) : a = b := by
 obtain ⟨a1, a2, a3, an, aa⟩ := a; obtain ⟨b1, b2, b3, bn, ba⟩ := b
 dsimp only at h1 h2 h3
 subst h1 h2 h3
 have e1 := ha.2.1.symm.trans hb.2.1
 have e2 := ha.2.2.1.symm.trans hb.2.2.1
 simp only [Option.some.injEq, AObj.cells.injEq, List.cons.injEq, AV.sl.injEq, and_true] at e1 e2
 rw [txtR_inj e1, atmR_inj e2]
def A2.put (m : A2) : Atm → Atm
 | .mk k nm ng dg tr => if k = 1 then (seek m.names m.atoms nm m.k).getD (.mk k nm ng dg tr) else .mk k nm ng dg tr
theorem A2.put_eq {m : A2} {k : Int} {nm : ByteArray} {ng : Bool} {dg : List Int} {tr : Bool} : m.put (.mk k nm ng dg tr) = if k = 1 then (seek m.names m.atoms nm m.k).getD (.mk k nm ng dg tr) else .mk k nm ng dg tr := rfl
abbrev sub2F : FS := ⟨A2 × Atm, fun p => [.agg p.2.cs, .ptr p.1.nid 0, .ptr p.1.nmid 0, .ptr p.1.aid 0], fun p σ => p.1.At σ ∧ p.2.n ≤ 1000000000, fun p σ => (.ret (.agg (p.1.put p.2).cs), σ), fun p => 16 * (atmN p.1.atoms + p.2.n) + 9⟩
theorem sub2F_uniq : FS.uniq sub2F := fun a b σ e ha hb => by
 obtain ⟨m, t⟩ := a; obtain ⟨m', t'⟩ := b
 simp only [List.cons.injEq, AV.ptr.injEq, AV.agg.injEq, and_true] at e
 cases A2.uniq e.2.1 e.2.2.1 e.2.2.2 ha.1 hb.1
 cases Atm.inj e.1
 rfl
theorem sub2_w (hc : S.code = codeP Tryz.prog) (hm : S.ms 25 = []) (h3 : S.sp 26 = some copAF) (m : A2) (t : Atm) (σ : Sto) (he : m.At σ) (hl : t.n ≤ 1000000000) (hN : 16 * (atmN m.atoms + t.n) + 9 ≤ N) :
    JC Tryz.prog (S.E N) 25 [.agg t.cs, .ptr m.nid 0, .ptr m.nmid 0, .ptr m.aid 0] σ fun r σ' => Fgt σ r σ' (.ret (.agg (m.put t).cs)) σ := by
 refine JC.startF (fn := Tryz.f25) (codeOf hc Tryz.func25 rfl (by kernel_rfl)) rfl hm rfl (zL rfl) fun tm => ?_
 refine CW.hide fun R0 hR0 => ?_
 obtain ⟨k, nm, ng, dg, tr⟩ := t
 obtain ⟨g1, g2, g3, g5, g6⟩ := he
 have l1 := (List.getElem?_eq_some_iff.1 g1).1
 have l2 := (List.getElem?_eq_some_iff.1 g2).1
 have l3 := (List.getElem?_eq_some_iff.1 g3).1
 have htl := atmN_len m.atoms
 have hput := @A2.put_eq m k nm ng dg tr
 have hk1 : m.k ≤ m.names.length := Nat.min_le_left _ _
 have hk2 : m.k ≤ m.atoms.length := Nat.min_le_right _ _
 generalize hmin : m.k = n at g1 hput hk1 hk2
 have hn1 : n ≤ m.names.length := hk1
 have hn2 : n ≤ m.atoms.length := hk2
 have hwn : IntKind.i64.wrap ((n : Int) - 1) = (n : Int) - 1 := IntWalk.i64_in _ ⟨by omega, by omega⟩
 simp only [Atm.n] at hl hN
 simp only [Atm.cs]
 refine CW.seqK fun K hK => CW.region ?_
 simp (maxDischargeDepth := 16) [zY]
 refine hK _ _ ?_; clear hK K
 refine CW.seqK fun K hK => ?_
 refine CW.seqK fun K hK => CW.region ?_
 simp (maxDischargeDepth := 16) [zY, st_old l1, g1, hwn]
 refine hK _ _ ?_; clear hK K
 refine CW.block (CW.hide fun R hR => ?_)
 refine CW.loopF (fun j : Nat => [(1, .ptr m.nid 0), (2, .ptr m.nmid 0), (3, .ptr m.aid 0), (4, .ptr σ.length 0), (5, .ptr (σ.length + 1) 0), (6, intV ((j : Int) - 1))])
  (fun _ => σ ++ [.cells [.lit (.int .u8 k), .lit (.string nm), .lit (.bool ng), .sl (limR dg) .no, .lit (.bool tr)] 30, .cells [.lit (.int .u8 0), .lit (.string ⟨#[]⟩), .lit (.bool false), .sl [] .full, .lit (.bool false)] 30])
  (fun j => j ≤ n ∧ (k = 1 → seek m.names m.atoms nm n = seek m.names m.atoms nm j)) (fun j => j) n (by simp [sub, lk]) rfl ⟨Nat.le_refl _, fun _ => rfl⟩ ?_
 rintro j tm ⟨hj, hs⟩
 refine CW.hide fun R2 hR2 => CW.seqK fun K3 hK3 => CW.seqK fun K4 hK4 => CW.region ?_
 have out : m.put (.mk k nm ng dg tr) = .mk k nm ng dg tr → ∀ (fr : List (Nat × AV)) (tm : List AV), sub [(4, .ptr σ.length 0), (5, .ptr (σ.length + 1) 0)] fr → CW Tryz.prog (S.E N) [] (.exit 0) (fm 32 fr tm) (σ ++ [.cells [.lit (.int .u8 k), .lit (.string nm), .lit (.bool ng), .sl (limR dg) .no, .lit (.bool tr)] 30, .cells [.lit (.int .u8 0), .lit (.string ⟨#[]⟩), .lit (.bool false), .sl [] .full, .lit (.bool false)] 30]) (andThen K3 R2) := by
  intro hno fr tm hfr
  rw [fm_sub hfr]
  refine CW.exit (hR2 _ _ _ (hR _ _ _ ?_))
  simp only [outOf, if_true, andThen]
  refine hK _ _ ?_
  refine CW.seqK fun K hK => CW.region ?_
  simp (maxDischargeDepth := 16) [zY]
  refine call_pure (Atm.mk k nm ng dg tr) h3 atm1_inj (by simp only [nrmR, AV.nrm, limR_nrm, Atm.cs]) (by simp only [Atm.n]; omega) (by simp only [Atm.n]; omega) fun _ => ?_
  simp only [Atm.cs]
  simp (maxDischargeDepth := 16) [zY]
  refine hK _ _ (CW.ret (hR0 _ _ _ ⟨.agg [.lit (.int .u8 k), .lit (.string nm), .lit (.bool ng), .sl (limR dg) .no, .lit (.bool tr)], by simp [zA, omap, zC, zB, zX], ?_⟩))
  rw [hno]
  exact done (by simp [AV.pln, plnR]) (by simp [AV.nrm, nrmR, Atm.cs])
 cases j with
 | zero =>
  simp (maxDischargeDepth := 16) [zY]
  refine hK4 _ _ ?_
  refine CW.cond (t := false) (by simp [zT, zF, lk]) ?_
  simp only [Bool.false_eq_true, if_false]
  refine out ?_ _ _ ?_
  · rw [hput]
    split
    · rename_i hk; rw [hs hk]; rfl
    · rfl
  · simp [sub, lk]
 | succ j =>
  have hjj : ((j + 1 : Nat) : Int) - 1 = (j : Int) := by omega
  simp only [hjj]
  rcases Classical.em (k = 1) with hk | hk
  · subst hk
    simp (maxDischargeDepth := 16) [zY]
    refine hK4 _ _ ?_
    refine CW.cond (t := true) (by simp [zT, zF, lk]) ?_
    refine CW.skip (hK3 _ _ ?_)
    refine CW.seqK fun K5 hK5 => CW.block ?_
    have hjn : j < m.names.length := by omega
    have hjt : j < m.atoms.length := by omega
    have ha := txtR_get hjn
    rcases Classical.em (m.names[j] = nm) with e | e
    · have hf : m.put (.mk 1 nm ng dg tr) = m.atoms[j] := by
       rw [hput, if_pos rfl, hs rfl, seek, if_pos (by rw [List.getElem?_eq_getElem hjn, e]), List.getElem?_eq_getElem hjt]
       rfl
      have hb := atmR_get hjt
      have htn := atmN_get hjt
      refine CW.seqK fun K hK => CW.draw (by kernel_rfl) ?_
      simp (maxDischargeDepth := 16) [zY, st_old l2, g2, ha, e]
      refine ⟨by kernel_rfl, hK _ _ ?_⟩; clear hK K
      refine CW.cond (t := true) (by simp [zT, zF, lk, e]) ?_
      refine CW.seqK fun K hK => CW.region ?_
      simp (maxDischargeDepth := 16) [zY, st_old l3, g3, hb, Atm.len, Atm.tk]
      refine call_pure m.atoms[j] h3 atm1_inj (by simp only [nrmR, AV.nrm, Atm.nrm]) (by omega) (by omega) fun _ => ?_
      simp (maxDischargeDepth := 16) [zY, Atm.put, Atm.len]
      refine hK _ _ ?_
      refine CW.ret (hR2 _ _ _ (hR _ _ _ (hR0 _ _ _ ⟨.agg m.atoms[j].cs, by simp [zA, omap, zC, zB, zX, Atm.tk, Atm.len], ?_⟩)))
      rw [hf]
      exact done (by simp [AV.pln, Atm.pln]) (by simp [AV.nrm, Atm.nrm])
    · have e2 := eqb_ne e
      refine CW.seqK fun K hK => CW.draw (by kernel_rfl) ?_
      simp (maxDischargeDepth := 16) [zY, st_old l2, g2, ha, beqL, e2]
      refine ⟨by kernel_rfl, hK _ _ ?_⟩; clear hK K
      refine CW.cond (t := false) (by simp [zT, zF, lk, e2]) ?_
      refine CW.skip (hK5 _ _ ?_)
      have hwj : IntKind.i64.wrap ((j : Int) - 1) = (j : Int) - 1 := IntWalk.i64_in _ ⟨by omega, by omega⟩
      refine CW.region ?_
      simp (maxDischargeDepth := 16) [zY, hwj]
      refine hR2 _ _ _ ⟨j, _, _, rfl, by simp [sub, lk], rfl, ⟨by omega, fun h => ?_⟩, by omega⟩
      rw [hs h, seek, if_neg (by rw [List.getElem?_eq_getElem hjn]; simpa using e)]
  · simp (maxDischargeDepth := 16) [zY, hk]
    refine hK4 _ _ ?_
    refine CW.cond (t := false) (by simp [zT, zF, lk, hk]) ?_
    simp only [Bool.false_eq_true, if_false]
    refine out ?_ _ _ ?_
    · rw [hput, if_neg hk]
    · simp [sub, lk]
structure A3 where
 nmid : Nat
 lid : Nat
 e : EnvT
def A3.At (m : A3) (σ : Sto) : Prop := σ[m.nmid]? = some (.cells [.sl (txtR m.e.names) .no] 35) ∧ σ[m.lid]? = some (.cells [m.e.lv .full] 52) ∧ m.e.held σ ∧ m.e.names.length ≤ 1000000000 ∧ trmN m.e.ts ≤ 500000000
theorem A3.At.app {m : A3} {σ : Sto} (h : m.At σ) (l : Sto) : m.At (σ ++ l) := by
 obtain ⟨h1, h2, h3, h4⟩ := h
 exact ⟨(st_old (List.getElem?_eq_some_iff.1 h1).1).trans h1, (st_old (List.getElem?_eq_some_iff.1 h2).1).trans h2, h3.app l, h4⟩
theorem A3.uniq {a b : A3} {σ : Sto} (h1 : a.nmid = b.nmid) (h2 : a.lid = b.lid) (ha : a.At σ) (hb : b.At σ) : a = b := by
 obtain ⟨a1, a2, ae⟩ := a; obtain ⟨b1, b2, be⟩ := b
 dsimp only at h1 h2
 subst h1 h2
 have e1 := ha.1.symm.trans hb.1
 have e2 := ha.2.1.symm.trans hb.2.1
 simp only [Option.some.injEq, AObj.cells.injEq, List.cons.injEq, AV.sl.injEq, and_true, true_and] at e1 e2
 obtain ⟨f1, f2⟩ := EnvT.lv_inj e2 ha.2.2.1 hb.2.2.1
 obtain ⟨an, ats, ai⟩ := ae; obtain ⟨bn, bts, bi⟩ := be
 have f3 := txtR_inj e1
 dsimp only at f1 f2 f3
 subst f1 f2 f3
 rfl
abbrev sub3F : FS := ⟨A3 × Trm, fun p => [.agg p.2.cs, .ptr p.1.nmid 0, .ptr p.1.lid 0], fun p σ => p.1.At σ ∧ p.2.n ≤ 1000000000 ∧ (p.1.e.put p.2).cnt ≤ 20000, fun p σ => (.ret (.agg (p.1.e.put p.2).cs), σ), fun p => 16 * (trmN p.1.e.ts + p.2.n) + 9⟩
theorem sub3F_uniq : FS.uniq sub3F := fun a b σ e ha hb => by
 obtain ⟨m, t⟩ := a; obtain ⟨m', t'⟩ := b
 simp only [List.cons.injEq, AV.ptr.injEq, AV.agg.injEq, and_true] at e
 cases A3.uniq e.2.1 e.2.2 ha.1 hb.1
 cases Trm.inj e.1
 rfl
theorem sub3_w (hc : S.code = codeP Tryz.prog) (hm : S.ms 27 = []) (h1 : S.sp 28 = some substF) (m : A3) (t : Trm) (σ : Sto) (he : m.At σ) (hl : t.n ≤ 1000000000) (hb : (m.e.put t).cnt ≤ 20000) (hN : 16 * (trmN m.e.ts + t.n) + 9 ≤ N) :
    JC Tryz.prog (S.E N) 27 [.agg t.cs, .ptr m.nmid 0, .ptr m.lid 0] σ fun r σ' => Fgt σ r σ' (.ret (.agg (m.e.put t).cs)) σ := by
 refine JC.startF (fn := Tryz.f27) (codeOf hc Tryz.func27 rfl (by kernel_rfl)) rfl hm rfl (zL rfl) fun tm => ?_
 refine CW.hide fun R0 hR0 => ?_
 obtain ⟨g1, g2, g3, g4, g5⟩ := he
 have l1 := (List.getElem?_eq_some_iff.1 g1).1
 have l2 := (List.getElem?_eq_some_iff.1 g2).1
 have lv1 : (m.e.lv .full).one = true := by rcases Nat.eq_zero_or_pos m.e.ts.length with hz | hz <;> (first | rw [EnvT.lv_zero hz] | rw [EnvT.lv_pos hz]) <;> rfl
 have lv2 : (m.e.lv .full).notTup = true := by rcases Nat.eq_zero_or_pos m.e.ts.length with hz | hz <;> (first | rw [EnvT.lv_zero hz] | rw [EnvT.lv_pos hz]) <;> rfl
 have lv3 : conc (m.e.lv .full) = none := by rcases Nat.eq_zero_or_pos m.e.ts.length with hz | hz <;> (first | rw [EnvT.lv_zero hz] | rw [EnvT.lv_pos hz]) <;> rfl
 refine CW.seqK fun K hK => CW.region ?_
 simp (maxDischargeDepth := 16) [zY]
 refine hK _ _ ?_; clear hK K
 refine CW.seqK fun K hK => CW.region ?_
 simp (maxDischargeDepth := 16) [zY, st_old l1, st_old l2, g1, g2, lv1, lv2, lv3, Trm.tk, Trm.len]
 refine call_sp (s := substF) (m.e, t) h1 substF_uniq (by simp only [nrmR, AV.nrm, EnvT.lv_nrm, Trm.nrm, txtR_nrm]) ⟨g3.app _, g4, g5, hl, hb⟩ (by show 16 * (trmN m.e.ts + t.n) + 8 < N; omega) ?_
 simp (maxDischargeDepth := 16) [zY, Trm.put, Trm.len]
 refine hK _ _ ?_; clear hK K
 refine CW.seqK fun K hK => ?_
 refine CW.seqK fun K hK => CW.region ?_
 simp (maxDischargeDepth := 16) [zY]
 refine hK _ _ ?_; clear hK K
 refine CW.cond (t := false) (by simp [zT, zF, lk]) ?_
 refine CW.skip (hK _ _ ?_); clear hK K
 refine CW.seqK fun K hK => CW.region ?_
 simp (maxDischargeDepth := 16) [zY, Trm.put, Trm.len, Trm.tk]
 refine hK _ _ (CW.ret (hR0 _ _ _ ⟨.agg (m.e.put t).cs, by simp [zA, omap, zC, zX, Trm.tk, Trm.len], ?_⟩))
 exact done (by simp [AV.pln, Trm.pln]) (by simp [AV.nrm, Trm.nrm])
end Go.Proofs.YtncoidmbmihliaaGreatDoor
