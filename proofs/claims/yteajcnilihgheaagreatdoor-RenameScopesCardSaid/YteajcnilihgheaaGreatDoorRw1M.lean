/-
 EV: the package rename: what only reads the names that are bound (printed by gen_rw1.py).
-/
import Derived.Test.YteajcnilihgheaaGreatDoorKSameM
import Derived.Test.YteajcnilihgheaaGreatDoorEvDeferM
namespace Go.Proofs.YteajcnilihgheaaGreatDoor
set_option maxRecDepth 100000
set_option maxHeartbeats 8000000
set_option linter.unusedSimpArgs false
set_option linter.unusedVariables false
open Go.RowKit
variable {S : Sp} {N : Nat}
abbrev limF : FS := pureF (fun l : List Int => [.sl (limR l) .no]) (fun l => .sl (limR l) .no) List.length 0
theorem Clone_w (hc : S.code = codeP Tryz.prog) (hm : S.ms 94 = []) : PureOk Tryz.prog S N 94 (fun l : List Int => [.sl (limR l) .no]) (fun l => .sl (limR l) .no) List.length 0 := by
 intro a σ hl hN
 refine JC.startG (fn := Tryz.f94) (codeOf hc Tryz.func94 rfl (by kernel_rfl)) rfl hm rfl (zL rfl) fun tm => ?_
 refine JD.hide fun R0 hR0 => ?_
 refine JD.seqK fun K hK => J.cw (CW.region ?_)
 simp (maxDischargeDepth := 16) [zY]
 refine hK _ _ ?_; clear hK K
 refine JD.seqK fun K hK => JD.seqK fun K2 hK2 => J.region ?_
 refine J.val (v := .sl (limR a) .no) (σ' := σ) (acc := .pure) rfl ?_ ?_
 · simp (maxDischargeDepth := 16) [zY]
 refine J.nilCmp (es := limR a) (tok := .no) (e := 110) (by kernel_rfl) ?_ fun b hb => J.nil (hK2 _ _ ?_)
 · simp (maxDischargeDepth := 16) [zY]
 clear hK2 K2
 simp only [putA_some, set_fm, num, pt]
 cases b with
 | true =>
  have h0 : a = [] := by
   rcases a with _ | ⟨x, l⟩
   · rfl
   · exact absurd (hb (by simp [limR])) (by simp)
  subst h0
  refine JD.cond (t := true) (by simp (maxDischargeDepth := 16) [zY]) (J.cw ?_)
  refine CW.seqK fun K hK => CW.region ?_
  simp (maxDischargeDepth := 16) [zY]
  refine hK _ _ ?_; clear hK K
  exact CW.ret (hR0 _ _ _ ⟨.sl [] .full, by simp [zA, omap, zB, zF, lk], done0 rfl rfl⟩)
 | false =>
  refine JD.cond (t := false) (by simp (maxDischargeDepth := 16) [zY]) (J.cw (CW.skip (hK _ _ (J.cw ?_))))
  refine CW.seqK fun K hK => CW.region ?_
  rcases Nat.eq_zero_or_pos a.length with h0 | h0
  · obtain rfl := List.eq_nil_of_length_eq_zero h0
    have hap := fun ρ ds ty po af gu x y hx hy => apd0 (P := Tryz.prog) (M := []) (σ := σ) (es := []) (tok := .full) (tk := .no) (t := 25) (e := 110) (k := 0) (by_ := 4) (ρ := ρ) (ds := ds) (ty := ty) (po := po) (af := af) (gu := gu) (x := x) (y := y) (by kernel_rfl) (by kernel_rfl) (by kernel_rfl) (by kernel_rfl) rfl (by simp) (by simp) hx hy
    simp (maxDischargeDepth := 16) [zY, limR, List.map_nil, hap]
    refine hK _ _ ?_
    exact CW.ret (hR0 _ _ _ ⟨.sl [] .full, by simp [zA, omap, zB, zF, lk], done0 rfl rfl⟩)
  · obtain ⟨tok', g', acc, hA', hap⟩ := apd (P := Tryz.prog) (M := []) (σ := σ) (g := []) (t := 25) (e := 110) (k := 0) (by_ := 4) [] (limR a) (Apd.nil σ _ []) (by kernel_rfl) (by kernel_rfl) (by kernel_rfl) (by kernel_rfl) rfl (limR_hd a) (by rw [limR_len]; omega) (by simp; omega) (by simp; omega)
    simp only [List.append_nil] at hap
    simp (maxDischargeDepth := 16) [zY, hap, limR_stp]
    refine hK _ _ ?_
    refine CW.ret (hR0 _ _ _ ⟨.sl (limR a) tok', by simp [zA, omap, zB, zF, lk], done (by simp [AV.pln]) (by simp [AV.nrm])⟩)
structure RS where
 rid : Nat
 l : Bnd
def topB (σ : Sto) (bs : List (Value × AV)) (s r : ByteArray) : Prop := (mapGet (.string s) bs = none ∧ r = s) ∨ ∃ (id n : Nat) (cs : List AV), mapGet (.string s) bs = some (.asl id 0 n 1) ∧ σ[id]? = some (.cells cs 9) ∧ (n ≤ cs.length ∧ n ≤ 1000000000) ∧ ((n = 0 ∧ r = s) ∨ (0 < n ∧ cs[n - 1]? = some (.lit (.string r))))
def RS.At (m : RS) (σ : Sto) : Prop := ∃ (uv : AV) (iid nid bid : Nat) (bs : List (Value × AV)), σ[m.rid]? = some (.cells [uv, .mp iid, .mp nid, .mp bid] 99) ∧ σ[bid]? = some (.map .str bs) ∧ ∀ s, topB σ bs s (nowB m.l s)
theorem topB.app {σ : Sto} {bs : List (Value × AV)} {s r : ByteArray} (h : topB σ bs s r) (l : Sto) : topB (σ ++ l) bs s r := by
 rcases h with h | ⟨id, n, cs, h1, h2, h3⟩
 · exact .inl h
 · exact .inr ⟨id, n, cs, h1, (st_old (List.getElem?_eq_some_iff.1 h2).1).trans h2, h3⟩
theorem RS.At.app {m : RS} {σ : Sto} (h : m.At σ) (l : Sto) : m.At (σ ++ l) := by
 obtain ⟨uv, iid, nid, bid, bs, h1, h2, h3⟩ := h
 exact ⟨uv, iid, nid, bid, bs, (st_old (List.getElem?_eq_some_iff.1 h1).1).trans h1, (st_old (List.getElem?_eq_some_iff.1 h2).1).trans h2, fun s => (h3 s).app l⟩
theorem topB.uniq {σ : Sto} {bs : List (Value × AV)} {s r r' : ByteArray} (h : topB σ bs s r) (k : topB σ bs s r') : r = r' := by
 rcases h with ⟨h1, rfl⟩ | ⟨id, n, cs, h1, h2, h3, h4⟩ <;> rcases k with ⟨k1, rfl⟩ | ⟨id', n', cs', k1, k2, k3, k4⟩
 · rfl
 · rw [h1] at k1; cases k1
 · rw [h1] at k1; cases k1
 · rw [h1] at k1; cases k1
   rw [h2] at k2; cases k2
   rcases h4 with ⟨h4, rfl⟩ | ⟨h4, h5⟩ <;> rcases k4 with ⟨k4, rfl⟩ | ⟨k4, k5⟩
   · rfl
   · omega
   · omega
   · rw [h5] at k5; cases k5; rfl
theorem RS.uniq {a b : RS} {σ : Sto} (h : a.rid = b.rid) (ha : a.At σ) (hb : b.At σ) (s : ByteArray) : nowB a.l s = nowB b.l s := by
 obtain ⟨uv, iid, nid, bid, bs, h1, h2, h3⟩ := ha
 obtain ⟨uv', iid', nid', bid', bs', k1, k2, k3⟩ := hb
 rw [h] at h1; rw [h1] at k1; cases k1
 rw [h2] at k2; cases k2
 exact (h3 s).uniq (k3 s)
theorem renA_congr {l l' : Bnd} (h : ∀ s, nowB l s = nowB l' s) (a : Atm) : renA l a = renA l' a := by cases a; simp only [renA, h]
mutual
theorem renT_congr {l l' : Bnd} (h : ∀ s, nowB l s = nowB l' s) : ∀ t : Trm, renT l t = renT l' t
 | .mk k nm ng dg ks => by rw [renT, renT, h, renTs_congr h ks]
theorem renTs_congr {l l' : Bnd} (h : ∀ s, nowB l s = nowB l' s) : ∀ t : List Trm, renTs l t = renTs l' t
 | [] => rfl
 | t :: ts => by rw [renTs, renTs, renT_congr h t, renTs_congr h ts]
end
abbrev rnowF : FS := ⟨RS × ByteArray, fun p => [.ptr p.1.rid 0, .lit (.string p.2)], fun p σ => p.1.At σ, fun p σ => (.ret (.lit (.string (nowB p.1.l p.2))), σ), fun _ => 0⟩
theorem rnowF_uniq : FS.uniq rnowF := fun a b σ e ha hb => by
 obtain ⟨m, t⟩ := a; obtain ⟨m', t'⟩ := b
 simp only [List.cons.injEq, AV.ptr.injEq, AV.lit.injEq, Value.string.injEq, and_true] at e
 obtain ⟨e1, rfl⟩ := e
 dsimp only
 rw [RS.uniq e1 ha hb t]
theorem rnow_w (hc : S.code = codeP Tryz.prog) (hm : S.ms 95 = [23]) (m : RS) (s : ByteArray) (σ : Sto) (he : m.At σ) : JC Tryz.prog (S.E N) 95 [.ptr m.rid 0, .lit (.string s)] σ fun r σ' => Fgt σ r σ' (.ret (.lit (.string (nowB m.l s)))) σ := by
 refine JC.startF (fn := Tryz.f95) (codeOf hc Tryz.func95 rfl (by kernel_rfl)) rfl hm rfl (zL rfl) fun tm => ?_
 refine CW.hide fun R0 hR0 => ?_
 obtain ⟨uv, iid, nid, bid, bs, g1, g2, g3⟩ := he
 have g3 := g3 s
 generalize hr : nowB m.l s = r at g3
 rcases g3 with ⟨h1, rfl⟩ | ⟨id, n, cs, h1, h2, h3, h4⟩
 · refine CW.seqK fun K hK => CW.region ?_
   simp (maxDischargeDepth := 16) [zY]
   refine hK _ _ ?_; clear hK K
   refine CW.seqK fun K hK => ?_
   refine CW.seqK fun K hK => CW.region ?_
   simp (maxDischargeDepth := 16) [zY, g1, g2, lookA, h1]
   refine hK _ _ ?_; clear hK K
   refine CW.seqK fun K hK => CW.region ?_
   simp (maxDischargeDepth := 16) [zY]
   refine hK _ _ ?_; clear hK K
   refine CW.cond (t := false) (by simp [zT, zF, lk]) ?_
   refine CW.skip (hK _ _ ?_); clear hK K
   refine CW.seqK fun K hK => CW.region ?_
   simp (maxDischargeDepth := 16) [zY]
   refine hK _ _ ?_; clear hK K
   exact CW.ret (hR0 _ _ _ ⟨.lit (.string r), by simp [zA, omap, zB, zF, lk], by show Fgt _ _ _ (.ret (.lit (.string (nowB m.l _)))) _; rw [hr]; exact done0 rfl rfl⟩)
 · rcases h4 with ⟨rfl, rfl⟩ | ⟨h4, h5⟩
   · refine CW.seqK fun K hK => CW.region ?_
     simp (maxDischargeDepth := 16) [zY]
     refine hK _ _ ?_; clear hK K
     refine CW.seqK fun K hK => ?_
     refine CW.seqK fun K hK => CW.region ?_
     simp (maxDischargeDepth := 16) [zY, g1, g2, lookA, h1]
     refine hK _ _ ?_; clear hK K
     refine CW.seqK fun K hK => CW.region ?_
     simp (maxDischargeDepth := 16) [zY]
     refine hK _ _ ?_; clear hK K
     refine CW.cond (t := false) (by simp [zT, zF, lk]) ?_
     refine CW.skip (hK _ _ ?_); clear hK K
     refine CW.seqK fun K hK => CW.region ?_
     simp (maxDischargeDepth := 16) [zY]
     refine hK _ _ ?_; clear hK K
     exact CW.ret (hR0 _ _ _ ⟨.lit (.string r), by simp [zA, omap, zB, zF, lk], by show Fgt _ _ _ (.ret (.lit (.string (nowB m.l _)))) _; rw [hr]; exact done0 rfl rfl⟩)
   · obtain ⟨k, rfl⟩ : ∃ k, n = k + 1 := ⟨n - 1, by omega⟩
     rw [Nat.add_sub_cancel] at h5
     have hw : IntKind.i64.wrap (k : Int) = (k : Int) := IntWalk.i64_in _ ⟨by omega, by omega⟩
     have hk1 : (k : Int) < (k : Int) + 1 := by omega
     have hlt : k < cs.length := by omega
     refine CW.seqK fun K hK => CW.region ?_
     simp (maxDischargeDepth := 16) [zY]
     refine hK _ _ ?_; clear hK K
     refine CW.seqK fun K hK => ?_
     refine CW.seqK fun K hK => CW.region ?_
     simp (maxDischargeDepth := 16) [zY, g1, g2, lookA, h1]
     refine hK _ _ ?_; clear hK K
     refine CW.seqK fun K hK => CW.region ?_
     simp (maxDischargeDepth := 16) [zY]
     refine hK _ _ ?_; clear hK K
     refine CW.cond (t := true) (by simp [zT, zF, lk]) ?_
     refine CW.seqK fun K2 hK2 => CW.region ?_
     simp (maxDischargeDepth := 16) [zY, hw, hk1, h2, h5]
     refine hK2 _ _ ?_
     exact CW.ret (hR0 _ _ _ ⟨.lit (.string r), by simp [zA, omap, zB, zF, lk], by show Fgt _ _ _ (.ret (.lit (.string (nowB m.l _)))) _; rw [hr]; exact done0 rfl rfl⟩)
theorem call_now {P : Program} {args : List AV} {σ : Sto} {Q : ARes → Sto → Prop} (m : RS) (s : ByteArray) (h : S.sp 95 = some rnowF) (ha : nrmR args = [.ptr m.rid 0, .lit (.string s)]) (hb : m.At σ) (hN : 0 < N)
    (hq : accW (S.E N) 95 args σ (.ret (.lit (.string (nowB m.l s)))) σ = .lcalls (fun _ => true) → Q (.ret (.lit (.string (nowB m.l s)))) σ) : CallW P (S.E N) 95 args σ Q :=
 call_sp (s := rnowF) (m, s) h rnowF_uniq ha hb hN (hq (by have := acc_sp (σ := σ) (s := rnowF) (m, s) h rnowF_uniq ha hN rfl (fun l => ⟨hb.app l, rfl⟩); rw [kept_self] at this; exact this))
def oneT : Option RS → Trm → Trm
 | none, t => t
 | some m, t => renT m.l t
def oneTs (o : Option RS) (l : List Trm) : List Trm := l.map (oneT o)
def fnT : Option RS → AV
 | none => .fn (.func 120) [] []
 | some m => .fn (.func 91) [.ptr m.rid 0] []
theorem renTs_map (l : Bnd) : ∀ ts : List Trm, renTs l ts = ts.map (renT l)
 | [] => rfl
 | t :: ts => by rw [renTs, renTs_map l ts]; rfl
abbrev raloneF : FS := pureF (fun t : Trm => [.agg t.cs]) (fun t => .agg t.cs) Trm.n 1
theorem rt1_inj (a b : Trm) (e : [AV.agg a.cs] = [.agg b.cs]) : a = b := by simp only [List.cons.injEq, and_true, AV.agg.injEq] at e; exact Trm.inj e
theorem rlim1_inj (a b : List Int) (e : [AV.sl (limR a) .no] = [.sl (limR b) .no]) : a = b := by simp only [List.cons.injEq, and_true, AV.sl.injEq] at e; exact limR_inj e
abbrev rtermF : FS := ⟨RS × Trm, fun p => [.ptr p.1.rid 0, .agg p.2.cs], fun p σ => p.1.At σ ∧ p.2.n ≤ 1000000000, fun p σ => (.ret (.agg (renT p.1.l p.2).cs), σ), fun p => 16 * p.2.n + 2⟩
theorem rtermF_uniq : FS.uniq rtermF := fun a b σ e ha hb => by
 obtain ⟨m, t⟩ := a; obtain ⟨m', t'⟩ := b
 simp only [List.cons.injEq, AV.ptr.injEq, AV.agg.injEq, and_true] at e
 obtain ⟨e1, e2⟩ := e
 cases Trm.inj e2
 dsimp only
 rw [renT_congr (RS.uniq e1 ha.1 hb.1)]
theorem call_rterm {P : Program} {args : List AV} {σ : Sto} {Q : ARes → Sto → Prop} (m : RS) (t : Trm) (h : S.sp 91 = some rtermF) (ha : nrmR args = [.ptr m.rid 0, .agg t.cs]) (hb : m.At σ) (hn : t.n ≤ 1000000000) (hN : 16 * t.n + 2 < N)
    (hq : accW (S.E N) 91 args σ (.ret (.agg (renT m.l t).cs)) σ = .lcalls (fun _ => true) → Q (.ret (.agg (renT m.l t).cs)) σ) : CallW P (S.E N) 91 args σ Q :=
 call_sp (s := rtermF) (m, t) h rtermF_uniq ha ⟨hb, hn⟩ hN (hq (by have := acc_sp (σ := σ) (s := rtermF) (m, t) h rtermF_uniq ha hN rfl (fun l => ⟨⟨hb.app l, hn⟩, rfl⟩); rw [kept_self] at this; exact this))
def OAt (o : Option RS) (σ : Sto) : Prop := ∀ m, o = some m → m.At σ
theorem OAt.app {o : Option RS} {σ : Sto} (h : OAt o σ) (l : Sto) : OAt o (σ ++ l) := fun m e => (h m e).app l
theorem oneTs_eq {o o' : Option RS} {σ : Sto} (e : fnT o = fnT o') (h : OAt o σ) (h' : OAt o' σ) (l : List Trm) : oneTs o l = oneTs o' l := by
 cases o with
 | none =>
  cases o' with
  | none => rfl
  | some m => simp only [fnT, AV.fn.injEq] at e; exact absurd e.2.1 (by simp)
 | some m =>
  cases o' with
  | none => simp only [fnT, AV.fn.injEq] at e; exact absurd e.2.1 (by simp)
  | some m' =>
   simp only [fnT, AV.fn.injEq, List.cons.injEq, AV.ptr.injEq, and_true, true_and] at e
   exact List.map_congr_left fun t _ => renT_congr (RS.uniq e (h m rfl) (h' m' rfl)) t
abbrev reachTF : FS := ⟨Option RS × List Trm, fun p => [.sl (trmR p.2) .no, fnT p.1], fun p σ => OAt p.1 σ ∧ trmN p.2 ≤ 1000000000, fun p σ => (.ret (.sl (trmR (oneTs p.1 p.2)) .no), σ), fun p => 16 * trmN p.2 + 3⟩
theorem reachTF_uniq : FS.uniq reachTF := fun a b σ e ha hb => by
 obtain ⟨m, t⟩ := a; obtain ⟨m', t'⟩ := b
 simp only [List.cons.injEq, AV.sl.injEq, and_true] at e
 obtain ⟨e1, e2⟩ := e
 cases trmR_inj e1
 dsimp only
 rw [oneTs_eq e2 ha.1 hb.1]
theorem call_reachT {P : Program} {args : List AV} {σ : Sto} {Q : ARes → Sto → Prop} (o : Option RS) (l : List Trm) (h : S.sp 97 = some reachTF) (ha : nrmR args = [.sl (trmR l) .no, fnT o]) (hb : OAt o σ) (hn : trmN l ≤ 1000000000) (hN : 16 * trmN l + 3 < N)
    (hq : accW (S.E N) 97 args σ (.ret (.sl (trmR (oneTs o l)) .no)) σ = .lcalls (fun _ => true) → Q (.ret (.sl (trmR (oneTs o l)) .no)) σ) : CallW P (S.E N) 97 args σ Q :=
 call_sp (s := reachTF) (o, l) h reachTF_uniq ha ⟨hb, hn⟩ hN (hq (by have := acc_sp (σ := σ) (s := reachTF) (o, l) h reachTF_uniq ha hN rfl (fun k => ⟨⟨hb.app k, hn⟩, rfl⟩); rw [kept_self] at this; exact this))
theorem ralone_w (hc : S.code = codeP Tryz.prog) (hm : S.ms 120 = []) (h1 : S.sp 94 = some limF) (h2 : S.sp 97 = some reachTF) : PureOk Tryz.prog S N 120 (fun t : Trm => [.agg t.cs]) (fun t => .agg t.cs) Trm.n 1 := by
 intro t σ hl hN
 refine JC.startF (fn := Tryz.f120) (codeOf hc Tryz.func120 rfl (by kernel_rfl)) rfl hm rfl (zL rfl) fun tm => ?_
 refine CW.hide fun R0 hR0 => ?_
 obtain ⟨k, nm, ng, dg, ks⟩ := t
 simp only [Trm.n] at hl hN
 simp only [Trm.cs]
 refine CW.seqK fun K hK => CW.region ?_
 simp (maxDischargeDepth := 16) [zY]
 refine hK _ _ ?_; clear hK K
 refine CW.seqK fun K hK => CW.draw (by kernel_rfl) ?_
 simp (maxDischargeDepth := 16) [zY]
 refine call_pure dg h1 rlim1_inj (by simp only [nrmR, AV.nrm, limR_nrm]) (by omega) (by omega) fun hac => ?_
 simp (maxDischargeDepth := 16) [zY, hac]
 refine call_reachT none ks h2 (by simp only [nrmR, AV.nrm, trmR_nrm, fnT]) (fun m e => by cases e) (by omega) (by omega) fun hac2 => ?_
 rw [show oneTs none ks = ks from List.map_id ks] at hac2 ⊢
 simp (maxDischargeDepth := 16) [zY, hac, hac2]
 refine ⟨drawOk_sim [σ.length] [.pure, .pure, .reads 0, .lcalls (fun _ => true), .pure, .reads 0, .lcalls (fun _ => true), .pure, .pure, .writes 0, .pure, .writes 0] (.cons (by simp) .nil) (.cons .pure (.cons .pure (.cons (.reads 0 _ rfl) (.cons (.lcalls _ _ fun i a ha hi => rfl) (.cons .pure (.cons (.reads 0 _ rfl) (.cons (.lcalls _ _ fun i a ha hi => rfl) (.cons .pure (.cons .pure (.cons (.writes 0 _ rfl) (.cons .pure (.cons (.writes 0 _ rfl) .nil)))))))))))) (by kernel_rfl), hK _ _ ?_⟩; clear hK K
 refine CW.seqK fun K hK => CW.region ?_
 simp (maxDischargeDepth := 16) [zY]
 refine hK _ _ ?_; clear hK K
 exact CW.ret (hR0 _ _ _ ⟨.agg [.lit (.int .u8 k), .lit (.string nm), .lit (.bool ng), .sl (limR dg) .no, .sl (trmR ks) .no], by simp [zA, omap, zC, zX], done (by simp [AV.pln, plnR, trmR_pln]) (by simp [AV.nrm, nrmR, trmR_nrm, Trm.cs])⟩)
theorem ratom_w (hc : S.code = codeP Tryz.prog) (hm : S.ms 61 = []) (h1 : S.sp 94 = some limF) (h2 : S.sp 95 = some rnowF) (m : RS) (a : Atm) (σ : Sto) (he : m.At σ) (hl : a.n ≤ 1000000000) (hN : 16 * a.n + 1 ≤ N) :
    JC Tryz.prog (S.E N) 61 [.ptr m.rid 0, .agg a.cs] σ fun r σ' => Fgt σ r σ' (.ret (.agg (renA m.l a).cs)) σ := by
 refine JC.startF (fn := Tryz.f61) (codeOf hc Tryz.func61 rfl (by kernel_rfl)) rfl hm rfl (zL rfl) fun tm => ?_
 refine CW.hide fun R0 hR0 => ?_
 obtain ⟨k, nm, ng, dg, tr⟩ := a
 simp only [Atm.n] at hl hN
 simp only [Atm.cs]
 refine CW.seqK fun K hK => CW.region ?_
 simp (maxDischargeDepth := 16) [zY]
 refine hK _ _ ?_; clear hK K
 refine CW.seqK fun K hK => CW.region ?_
 simp (maxDischargeDepth := 16) [zY]
 refine call_pure dg h1 rlim1_inj (by simp only [nrmR, AV.nrm, limR_nrm]) (by omega) (by omega) fun _ => ?_
 simp (maxDischargeDepth := 16) [zY]
 refine hK _ _ ?_; clear hK K
 refine CW.seqK fun K hK => ?_
 rcases Classical.em (k = 1) with hk | hk
 · have hk' := eq_true hk
   have hk2 : (k == 1) = true := by simp [hk]
   refine CW.seqK fun K hK => CW.region ?_
   simp (maxDischargeDepth := 16) [zY, hk']
   refine hK _ _ ?_; clear hK K
   refine CW.cond (t := true) (by simp [zT, zF, lk, hk', hk2]) ?_
   refine CW.region ?_
   simp (maxDischargeDepth := 16) [zY]
   refine call_now m nm h2 (by simp only [nrmR, AV.nrm]) (he.app _) (by omega) fun _ => ?_
   generalize hr : nowB m.l nm = r
   simp (maxDischargeDepth := 16) [zY]
   refine hK _ _ ?_; clear hK K
   refine CW.seqK fun K hK => CW.region ?_
   simp (maxDischargeDepth := 16) [zY]
   refine hK _ _ ?_; clear hK K
   exact CW.ret (hR0 _ _ _ ⟨.agg [.lit (.int .u8 k), .lit (.string r), .lit (.bool ng), .sl (limR dg) .no, .lit (.bool tr)], by simp [zA, omap, zC, zX], done (by simp [AV.pln, plnR]) (by simp [AV.nrm, nrmR, renA, hk, hr, Atm.cs])⟩)
 · have hk' := eq_false hk
   have hk2 : (k == 1) = false := by simp [hk]
   refine CW.seqK fun K hK => CW.region ?_
   simp (maxDischargeDepth := 16) [zY, hk']
   refine hK _ _ ?_; clear hK K
   refine CW.cond (t := false) (by simp [zT, zF, lk, hk', hk2]) ?_
   refine CW.skip (hK _ _ ?_); clear hK K
   refine CW.seqK fun K hK => CW.region ?_
   simp (maxDischargeDepth := 16) [zY]
   refine hK _ _ ?_; clear hK K
   exact CW.ret (hR0 _ _ _ ⟨.agg [.lit (.int .u8 k), .lit (.string nm), .lit (.bool ng), .sl (limR dg) .no, .lit (.bool tr)], by simp [zA, omap, zC, zX], done (by simp [AV.pln, plnR]) (by simp [AV.nrm, nrmR, renA, hk, Atm.cs])⟩)
theorem vB_l : vB.toList = [118] := by rw [ByteArray.toList_eq]
theorem tlR (s t : ByteArray) : s.toList = t.toList ↔ s = t := ⟨fun h => eqb_iff.1 ((beqL s t).symm.trans (by simp [h])), fun h => h ▸ rfl⟩
theorem rterm_w (hc : S.code = codeP Tryz.prog) (hm : S.ms 91 = []) (h1 : S.sp 94 = some limF) (h2 : S.sp 97 = some reachTF) (h3 : S.sp 95 = some rnowF) (m : RS) (t : Trm) (σ : Sto) (he : m.At σ) (hl : t.n ≤ 1000000000) (hN : 16 * t.n + 2 ≤ N) :
    JC Tryz.prog (S.E N) 91 [.ptr m.rid 0, .agg t.cs] σ fun r σ' => Fgt σ r σ' (.ret (.agg (renT m.l t).cs)) σ := by
 refine JC.startF (fn := Tryz.f91) (codeOf hc Tryz.func91 rfl (by kernel_rfl)) rfl hm rfl (zL rfl) fun tm => ?_
 refine CW.hide fun R0 hR0 => ?_
 obtain ⟨k, nm, ng, dg, ks⟩ := t
 simp only [Trm.n] at hl hN
 simp only [Trm.cs]
 refine CW.seqK fun K hK => CW.region ?_
 simp (maxDischargeDepth := 16) [zY]
 refine hK _ _ ?_; clear hK K
 refine CW.seqK fun K hK => CW.draw (by kernel_rfl) ?_
 simp (maxDischargeDepth := 16) [zY]
 refine call_pure dg h1 rlim1_inj (by simp only [nrmR, AV.nrm, limR_nrm]) (by omega) (by omega) fun hac => ?_
 simp (maxDischargeDepth := 16) [zY, hac]
 refine call_reachT (some m) ks h2 (by simp only [nrmR, AV.nrm, trmR_nrm, fnT]) (fun m' e => by cases e; exact he.app _) (by omega) (by omega) fun hac2 => ?_
 rw [show oneTs (some m) ks = renTs m.l ks from (renTs_map m.l ks).symm] at hac2 ⊢
 generalize hks : renTs m.l ks = ks2 at hac2 ⊢
 simp (maxDischargeDepth := 16) [zY, hac, hac2]
 refine ⟨drawOk_sim [σ.length] [.pure, .pure, .reads 0, .lcalls (fun _ => true), .pure, .reads 0, .pure, .pure, .lcalls (fun _ => true), .pure, .pure, .writes 0, .pure, .writes 0] (.cons (by simp) .nil) (.cons .pure (.cons .pure (.cons (.reads 0 _ rfl) (.cons (.lcalls _ _ fun i a ha hi => rfl) (.cons .pure (.cons (.reads 0 _ rfl) (.cons .pure (.cons .pure (.cons (.lcalls _ _ fun i a ha hi => rfl) (.cons .pure (.cons .pure (.cons (.writes 0 _ rfl) (.cons .pure (.cons (.writes 0 _ rfl) .nil)))))))))))))) (by kernel_rfl), hK _ _ ?_⟩; clear hK K
 refine CW.seqK fun K hK => ?_
 have fin : ∀ (x : ByteArray) (fr : List (Nat × AV)) (tm : List AV), (if k = 1 ∧ nm ≠ vB then nowB m.l nm else nm) = x → sub [(3, .ptr σ.length 0), (4, .ptr (σ.length + 1) 0)] fr → K (fm 31 fr tm) (σ ++ [.cells [.lit (.int .u8 k), .lit (.string x), .lit (.bool ng), .sl (limR dg) .no, .sl (trmR ks2) .no] 30, .cells [.lit (.int .u8 0), .lit (.string ⟨#[]⟩), .lit (.bool false), .sl [] .full, .sl [] .full] 30]) := by
  intro x fr tm hx hs
  rw [fm_sub hs]
  refine hK _ _ ?_
  refine CW.seqK fun K hK => CW.region ?_
  simp (maxDischargeDepth := 16) [zY]
  refine hK _ _ ?_; clear hK K
  exact CW.ret (hR0 _ _ _ ⟨.agg [.lit (.int .u8 k), .lit (.string x), .lit (.bool ng), .sl (limR dg) .no, .sl (trmR ks2) .no], by simp [zA, omap, zC, zX], done (by simp [AV.pln, plnR, trmR_pln]) (by simp [AV.nrm, nrmR, trmR_nrm, renT, Trm.cs, hx, hks])⟩)
 rcases Classical.em (k = 1) with hk | hk
 · have hk' := eq_true hk
   have hk2 : (k == 1) = true := by simp [hk]
   rcases Classical.em (nm = vB) with hv | hv
   · have hv' : (nm.toList = [118]) = True := eq_true (by rw [hv, vB_l])
     refine CW.seqK fun K hK => CW.region ?_
     simp (maxDischargeDepth := 16) [zY, hk', hv']
     refine hK _ _ ?_; clear hK K
     refine CW.cond (t := false) (by simp [zT, zF, lk, hk', hk2, hv']) ?_
     exact CW.skip (fin nm _ _ (by simp [hk, hv]) (by simp [sub, lk]))
   · have hv' : (nm.toList = [118]) = False := eq_false (fun h => hv ((tlR nm vB).1 (h.trans vB_l.symm)))
     refine CW.seqK fun K hK => CW.region ?_
     simp (maxDischargeDepth := 16) [zY, hk', hv']
     refine hK _ _ ?_; clear hK K
     refine CW.cond (t := true) (by simp [zT, zF, lk, hk', hk2, hv']) ?_
     refine CW.region ?_
     simp (maxDischargeDepth := 16) [zY]
     refine call_now m nm h3 (by simp only [nrmR, AV.nrm]) (he.app _) (by omega) fun _ => ?_
     generalize hr : nowB m.l nm = r at fin
     simp (maxDischargeDepth := 16) [zY]
     exact fin r _ _ (by simp [hk, hv]) (by simp [sub, lk])
 · have hk' := eq_false hk
   have hk2 : (k == 1) = false := by simp [hk]
   refine CW.seqK fun K hK => CW.region ?_
   simp (maxDischargeDepth := 16) [zY, hk']
   refine hK _ _ ?_; clear hK K
   refine CW.cond (t := false) (by simp [zT, zF, lk, hk', hk2]) ?_
   exact CW.skip (fin nm _ _ (by simp [hk]) (by simp [sub, lk]))
theorem set_last {g : List AObj} {a b : AObj} : (g ++ [a]).set g.length b = g ++ [b] := by rw [List.set_append_right _ _ (Nat.le_refl _), Nat.sub_self]; rfl
theorem reachT0_w (hc : S.code = codeP Tryz.prog) (hm : S.ms 97 = []) (h1 : S.sp 120 = some raloneF) (a : List Trm) (σ : Sto) (he : OAt none σ) (hl : trmN a ≤ 1000000000) (hN : 16 * trmN a + 3 ≤ N) :
    JC Tryz.prog (S.E N) 97 [.sl (trmR a) .no, fnT none] σ fun r σ' => Fgt σ r σ' (.ret (.sl (trmR (oneTs none a)) .no)) σ := by
 refine JC.startF (fn := Tryz.f97) (codeOf hc Tryz.func97 rfl (by kernel_rfl)) rfl hm rfl (zL rfl) fun tm => ?_
 refine CW.hide fun R0 hR0 => ?_
 have hlen : a.length ≤ trmN a := trmN_len a
 have hpk : ∀ i (h : i < a.length), oneTs none (a.take (i + 1)) = oneTs none (a.take i) ++ [id a[i]] := fun i h => by rw [List.take_succ_eq_append_getElem h, oneTs, List.map_append]; rfl
 have hpl : ∀ l, (oneTs none l).length = l.length := fun l => List.length_map _
 simp only [fnT]
 refine CW.seqK fun K hK => CW.region ?_
 simp (maxDischargeDepth := 16) [zY]
 refine hK _ _ ?_; clear hK K
 refine CW.seqK fun K hK => CW.region ?_
 simp (maxDischargeDepth := 16) [zY]
 refine hK _ _ ?_; clear hK K
 refine CW.seqK fun K hK => ?_
 refine CW.seqK fun K hK => CW.region ?_
 simp (maxDischargeDepth := 16) [zY]
 refine hK _ _ ?_; clear hK K
 refine CW.block (CW.hide fun R hR => ?_)
 refine CW.loopF (fun p : Nat × Tok × List AObj => [(1, .fn (.func 120) [] []), (5, .sl (trmR (oneTs none (a.take p.1))) p.2.1), (8, .sl (trmR a) .no), (9, intV a.length), (10, intV p.1)]) (fun p => σ ++ p.2.2) (fun p => p.1 ≤ a.length ∧ Apd σ 30 (p.1 * 5) p.2.1 p.2.2) (fun p => a.length - p.1) (0, .full, []) (by simp [sub, lk, oneTs, trmR]) (by simp) ⟨by simp, by simpa using Apd.nil σ _ []⟩ ?_
 rintro ⟨i, tok, g⟩ tm ⟨hi, hA⟩
 dsimp only at hi hA ⊢
 refine CW.hide fun R2 hR2 => CW.seqK fun K4 hK4 => CW.region ?_
 rcases Nat.lt_or_ge i a.length with hlt | hge
 · have ha := trmR_get hlt
   have hg := trmN_get hlt
   have hti : (oneTs none (a.take i)).length = i := by rw [hpl]; exact List.length_take_of_le hi
   obtain ⟨tok', g', acc, hA', hap⟩ := apd (P := Tryz.prog) (M := []) (t := 28) (e := 30) (k := 4) (by_ := 80) (trmR (oneTs none (a.take i))) [(id a[i]).cs] (by rw [trmR_len, hti]; exact hA.push [.cells a[i].cs 30]) (by kernel_rfl) (by kernel_rfl) (by kernel_rfl) (by kernel_rfl) (trmR_hd _) (by simp [Trm.len]) (by simp) (by simp only [trmR_len, hti, List.length_singleton]; omega) (by simp only [trmR_len, hti, List.length_singleton]; omega)
   try simp only [id] at hap
   simp (maxDischargeDepth := 16) [zY, hlt]
   refine hK4 _ _ ?_
   refine CW.seqK fun K3 hK3 => ?_
   refine CW.cond (t := true) (by simp [zT, zF, lk]) ?_
   refine CW.skip (hK3 _ _ ?_)
   refine CW.seqK fun K5 hK5 => CW.block ?_
   refine CW.seqK fun K hK => CW.region ?_
   simp (maxDischargeDepth := 16) [zY, ha, Trm.len, Trm.tk, Trm.put, set_last]
   refine hK _ _ ?_; clear hK K
   refine CW.region ?_
   simp (maxDischargeDepth := 16) [zY, Trm.len, Trm.tk]
   refine call_pure a[i] h1 rt1_inj (by simp only [nrmR, AV.nrm, Trm.nrm]) (by omega) (by omega) fun _ => ?_
   simp (maxDischargeDepth := 16) [zY, Trm.len, Trm.tk, Trm.put, hap]
   refine hK5 _ _ ?_
   refine CW.region ?_
   simp (maxDischargeDepth := 16) [zY, wrap_succ (show i ≤ 1000000000000 by omega)]
   refine hR2 _ _ _ ⟨(i + 1, tok', g'), _, _, rfl, ?_, rfl, ⟨hlt, ?_⟩, show a.length - (i + 1) < a.length - i by omega⟩
   · have e : trmR (oneTs none (a.take (i + 1))) = trmR (oneTs none (a.take i)) ++ [(id a[i]).cs] := by rw [hpk i hlt, trmR_app]; rfl
     try simp only [id] at e
     simp [sub, lk, e, stripRows, Trm.stp]
   · simpa only [trmR_len, hti, List.length_singleton] using hA'
 · simp (maxDischargeDepth := 16) [zY, Nat.not_lt.2 hge]
   refine hK4 _ _ ?_
   refine CW.seqK fun K3 hK3 => ?_
   refine CW.cond (t := false) (by simp [zT, zF, lk]) ?_
   refine CW.exit (hR2 _ _ _ (hR _ _ _ ?_))
   simp only [outOf, if_true, andThen]
   refine hK _ _ ?_
   rw [List.take_of_length_le hge]
   refine CW.seqK fun K hK => CW.region ?_
   simp (maxDischargeDepth := 16) [zY]
   refine hK _ _ ?_; clear hK K
   refine CW.ret (hR0 _ _ _ ⟨.sl (trmR (oneTs none a)) tok, by simp [zA, omap, zB, zF, lk], done (by simp [AV.pln, trmR_pln]) (by simp [AV.nrm, trmR_nrm])⟩)
theorem reachT1_w (hc : S.code = codeP Tryz.prog) (hm : S.ms 97 = []) (h1 : S.sp 91 = some rtermF) (m : RS) (a : List Trm) (σ : Sto) (he : OAt (some m) σ) (hl : trmN a ≤ 1000000000) (hN : 16 * trmN a + 3 ≤ N) :
    JC Tryz.prog (S.E N) 97 [.sl (trmR a) .no, fnT (some m)] σ fun r σ' => Fgt σ r σ' (.ret (.sl (trmR (oneTs (some m) a)) .no)) σ := by
 refine JC.startF (fn := Tryz.f97) (codeOf hc Tryz.func97 rfl (by kernel_rfl)) rfl hm rfl (zL rfl) fun tm => ?_
 refine CW.hide fun R0 hR0 => ?_
 have hlen : a.length ≤ trmN a := trmN_len a
 have hpk : ∀ i (h : i < a.length), oneTs (some m) (a.take (i + 1)) = oneTs (some m) (a.take i) ++ [renT m.l a[i]] := fun i h => by rw [List.take_succ_eq_append_getElem h, oneTs, List.map_append]; rfl
 have hpl : ∀ l, (oneTs (some m) l).length = l.length := fun l => List.length_map _
 replace he := he m rfl
 simp only [fnT]
 refine CW.seqK fun K hK => CW.region ?_
 simp (maxDischargeDepth := 16) [zY]
 refine hK _ _ ?_; clear hK K
 refine CW.seqK fun K hK => CW.region ?_
 simp (maxDischargeDepth := 16) [zY]
 refine hK _ _ ?_; clear hK K
 refine CW.seqK fun K hK => ?_
 refine CW.seqK fun K hK => CW.region ?_
 simp (maxDischargeDepth := 16) [zY]
 refine hK _ _ ?_; clear hK K
 refine CW.block (CW.hide fun R hR => ?_)
 refine CW.loopF (fun p : Nat × Tok × List AObj => [(1, .fn (.func 91) [.ptr m.rid 0] []), (5, .sl (trmR (oneTs (some m) (a.take p.1))) p.2.1), (8, .sl (trmR a) .no), (9, intV a.length), (10, intV p.1)]) (fun p => σ ++ p.2.2) (fun p => p.1 ≤ a.length ∧ Apd σ 30 (p.1 * 5) p.2.1 p.2.2) (fun p => a.length - p.1) (0, .full, []) (by simp [sub, lk, oneTs, trmR]) (by simp) ⟨by simp, by simpa using Apd.nil σ _ []⟩ ?_
 rintro ⟨i, tok, g⟩ tm ⟨hi, hA⟩
 dsimp only at hi hA ⊢
 refine CW.hide fun R2 hR2 => CW.seqK fun K4 hK4 => CW.region ?_
 rcases Nat.lt_or_ge i a.length with hlt | hge
 · have ha := trmR_get hlt
   have hg := trmN_get hlt
   have hti : (oneTs (some m) (a.take i)).length = i := by rw [hpl]; exact List.length_take_of_le hi
   obtain ⟨tok', g', acc, hA', hap⟩ := apd (P := Tryz.prog) (M := []) (t := 28) (e := 30) (k := 4) (by_ := 80) (trmR (oneTs (some m) (a.take i))) [(renT m.l a[i]).cs] (by rw [trmR_len, hti]; exact hA.push [.cells a[i].cs 30]) (by kernel_rfl) (by kernel_rfl) (by kernel_rfl) (by kernel_rfl) (trmR_hd _) (by simp [Trm.len]) (by simp) (by simp only [trmR_len, hti, List.length_singleton]; omega) (by simp only [trmR_len, hti, List.length_singleton]; omega)
   try simp only [id] at hap
   simp (maxDischargeDepth := 16) [zY, hlt]
   refine hK4 _ _ ?_
   refine CW.seqK fun K3 hK3 => ?_
   refine CW.cond (t := true) (by simp [zT, zF, lk]) ?_
   refine CW.skip (hK3 _ _ ?_)
   refine CW.seqK fun K5 hK5 => CW.block ?_
   refine CW.seqK fun K hK => CW.region ?_
   simp (maxDischargeDepth := 16) [zY, ha, Trm.len, Trm.tk, Trm.put, set_last]
   refine hK _ _ ?_; clear hK K
   refine CW.region ?_
   simp (maxDischargeDepth := 16) [zY, Trm.len, Trm.tk]
   refine call_rterm m a[i] h1 (by simp only [nrmR, AV.nrm, Trm.nrm]) (he.app _) (by omega) (by omega) fun _ => ?_
   simp (maxDischargeDepth := 16) [zY, Trm.len, Trm.tk, Trm.put, hap]
   refine hK5 _ _ ?_
   refine CW.region ?_
   simp (maxDischargeDepth := 16) [zY, wrap_succ (show i ≤ 1000000000000 by omega)]
   refine hR2 _ _ _ ⟨(i + 1, tok', g'), _, _, rfl, ?_, rfl, ⟨hlt, ?_⟩, show a.length - (i + 1) < a.length - i by omega⟩
   · have e : trmR (oneTs (some m) (a.take (i + 1))) = trmR (oneTs (some m) (a.take i)) ++ [(renT m.l a[i]).cs] := by rw [hpk i hlt, trmR_app]; rfl
     try simp only [id] at e
     simp [sub, lk, e, stripRows, Trm.stp]
   · simpa only [trmR_len, hti, List.length_singleton] using hA'
 · simp (maxDischargeDepth := 16) [zY, Nat.not_lt.2 hge]
   refine hK4 _ _ ?_
   refine CW.seqK fun K3 hK3 => ?_
   refine CW.cond (t := false) (by simp [zT, zF, lk]) ?_
   refine CW.exit (hR2 _ _ _ (hR _ _ _ ?_))
   simp only [outOf, if_true, andThen]
   refine hK _ _ ?_
   rw [List.take_of_length_le hge]
   refine CW.seqK fun K hK => CW.region ?_
   simp (maxDischargeDepth := 16) [zY]
   refine hK _ _ ?_; clear hK K
   refine CW.ret (hR0 _ _ _ ⟨.sl (trmR (oneTs (some m) a)) tok, by simp [zA, omap, zB, zF, lk], done (by simp [AV.pln, trmR_pln]) (by simp [AV.nrm, trmR_nrm])⟩)
theorem reachT_w (hc : S.code = codeP Tryz.prog) (hm : S.ms 97 = []) (h1 : S.sp 120 = some raloneF) (h2 : S.sp 91 = some rtermF) (o : Option RS) (a : List Trm) (σ : Sto) (he : OAt o σ) (hl : trmN a ≤ 1000000000) (hN : 16 * trmN a + 3 ≤ N) :
    JC Tryz.prog (S.E N) 97 [.sl (trmR a) .no, fnT o] σ fun r σ' => Fgt σ r σ' (.ret (.sl (trmR (oneTs o a)) .no)) σ := by
 cases o with
 | none => exact reachT0_w hc hm h1 a σ he hl hN
 | some m => exact reachT1_w hc hm h2 m a σ he hl hN
end Go.Proofs.YteajcnilihgheaaGreatDoor
