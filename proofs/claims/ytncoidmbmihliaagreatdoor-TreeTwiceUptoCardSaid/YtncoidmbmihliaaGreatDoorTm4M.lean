/-
  EV: the package term: of.
-/
import Derived.Test.YtncoidmbmihliaaGreatDoorEvDeferM
namespace Go.Proofs.YtncoidmbmihliaaGreatDoor
set_option linter.unusedSimpArgs false
set_option linter.unusedVariables false
section
open Go.RowKit

variable {S : Sp} {N : Nat}
mutual
def EnvT.put (e : EnvT) : Trm → Trm
  | .mk k nm ng dg ks => match e.find (.mk k nm ng dg ks) with
    | some x => x
    | none => .mk k nm ng dg (e.puts ks)
def EnvT.puts (e : EnvT) : List Trm → List Trm
  | [] => []
  | t :: l => e.put t :: e.puts l
end
theorem EnvT.puts_len (e : EnvT) (l : List Trm) : (e.puts l).length = l.length := by induction l with | nil => rfl | cons t l ih => simp [EnvT.puts, ih]
theorem EnvT.puts_take (e : EnvT) {l : List Trm} {i : Nat} (h : i < l.length) : e.puts (l.take (i + 1)) = e.puts (l.take i) ++ [e.put l[i]] := by
  induction l generalizing i with
  | nil => simp at h
  | cons t l ih =>
    cases i with
    | zero => simp [EnvT.puts]
    | succ i => simp only [List.take_succ_cons, EnvT.puts, List.cons_append, List.getElem_cons_succ]; rw [ih (by simpa using h)]
theorem trmCs_app (a b : List Trm) : trmCs (a ++ b) = trmCs a + trmCs b := by induction a with | nil => simp [trmCs] | cons t l ih => simp only [List.cons_append, trmCs, ih]; omega
theorem EnvT.puts_le (e : EnvT) {l : List Trm} {i : Nat} : trmCs (e.puts (l.take i)) ≤ trmCs (e.puts l) := by
  induction l generalizing i with
  | nil => simp
  | cons t l ih =>
    cases i with
    | zero => simp [EnvT.puts, trmCs]
    | succ i => simp only [List.take_succ_cons, EnvT.puts, trmCs]; have := @ih i; omega
theorem MkT.ne {m : MkT} {σ : Sto} {i : Nat} {cs : List AV} {T : TypeId} (h : m.At σ) (hi : σ[i]? = some (.cells cs T)) (hT : T ≠ 147) : m.mid ≠ i := fun e => by
  have := h.1.symm.trans (e ▸ hi)
  simp only [Option.some.injEq, MkT.obj, AObj.cells.injEq] at this
  exact hT this.2.symm
theorem EnvT.At.up {e : EnvT} {m : MkT} {σ : Sto} (h : e.At m σ) (hm : m.At σ) (k : Nat) (o : AObj) (l : Sto) : e.At (m.up k) (σ.set m.mid o ++ l) := by
  obtain ⟨h1, h2, h3, h4, h5⟩ := h
  refine EnvT.At.app ⟨?_, ?_, ?_, ?_, h5⟩ l
  · rw [List.getElem?_set_ne (MkT.ne hm h1 (by decide))]; exact h1
  · rw [List.getElem?_set_ne (MkT.ne hm h2 (by decide))]; exact h2
  · rw [List.getElem?_set_ne (MkT.ne hm h3 (by decide))]; exact h3
  · rw [List.getElem?_set_ne (MkT.ne hm h4 (by decide))]; exact h4

abbrev ofF : FS := ⟨MkT × EnvT × Trm, fun p => [.ptr p.1.mid 0, .agg p.2.2.cs], fun p σ => p.1.At σ ∧ p.2.1.At p.1 σ ∧ p.2.2.n ≤ 1000000000 ∧ p.1.made + (p.2.1.put p.2.2).cnt ≤ 20000, fun p σ => (.ret (.agg (p.2.1.put p.2.2).cs), σ.set p.1.mid (p.1.obj (p.2.1.put p.2.2).cnt)), fun p => 16 * (trmN p.2.1.ts + p.2.2.n) + 5⟩
theorem ofF_uniq : FS.uniq ofF := fun a b σ e ha hb => by
  obtain ⟨m, en, t⟩ := a; obtain ⟨m', en', t'⟩ := b
  simp only [List.cons.injEq, AV.ptr.injEq, AV.agg.injEq, and_true] at e
  cases MkT.uniq e.1 ha.1 hb.1
  cases Trm.inj e.2
  cases EnvT.uniq ha.2.1 hb.2.1
  rfl
theorem call_of {P : Program} {args : List AV} {σ : Sto} {Q : ARes → Sto → Prop} (m : MkT) (en : EnvT) (t : Trm) (h : S.sp 59 = some ofF) (ha : nrmR args = [.ptr m.mid 0, .agg t.cs]) (hp : m.At σ) (he : en.At m σ) (hn : t.n ≤ 1000000000) (hb : m.made + (en.put t).cnt ≤ 20000) (hN : 16 * (trmN en.ts + t.n) + 5 < N)
    (hq : accW (S.E N) 59 args σ (.ret (.agg (en.put t).cs)) (σ.set m.mid (m.obj (en.put t).cnt)) = .lcalls (keptB σ (σ.set m.mid (m.obj (en.put t).cnt))) → Q (.ret (.agg (en.put t).cs)) (σ.set m.mid (m.obj (en.put t).cnt))) : CallW P (S.E N) 59 args σ Q :=
  call_sp (s := ofF) (m, en, t) h ofF_uniq ha ⟨hp, he, hn, hb⟩ hN (hq (acc_sp (s := ofF) (m, en, t) h ofF_uniq ha hN (by simp) fun l => ⟨⟨hp.app l, he.app l, hn, hb⟩, by simp only [List.set_append_left _ _ hp.lt]⟩))

set_option maxRecDepth 100000 in
set_option maxHeartbeats 2000000 in
theorem of_w (hc : S.code = codeP Tryz.prog) (hm : S.ms 59 = []) (h0 : S.sp 97 = some putF) (h1 : S.sp 100 = some moreF) (h2 : S.sp 101 = some aloneF) (h3 : S.sp 59 = some ofF) (m : MkT) (en : EnvT) (t : Trm) (σ : Sto) (hp : m.At σ) (he : en.At m σ) (hl : t.n ≤ 1000000000) (hb : m.made + (en.put t).cnt ≤ 20000) (hN : 16 * (trmN en.ts + t.n) + 5 ≤ N) :
    JC Tryz.prog (S.E N) 59 [.ptr m.mid 0, .agg t.cs] σ fun r σ' => Fgt σ r σ' (.ret (.agg (en.put t).cs)) (σ.set m.mid (m.obj (en.put t).cnt)) := by
  refine JC.startF (fn := Tryz.f59) (codeOf hc Tryz.func59 rfl (by kernel_rfl)) rfl hm rfl (Nat.le_of_ble_eq_true rfl) fun tm => ?_
  refine CW.hide fun R0 hR0 => ?_
  have hlt := hp.lt
  have hp0 := hp.1
  simp only [MkT.obj, pfA, Int.natCast_zero, Int.add_zero] at hp0
  have hbx : ∀ x, en.find t = some x → en.put t = x := fun x hx => by obtain ⟨k, nm, ng, dg, ks⟩ := t; rw [EnvT.put, hx]
  have hps : ∀ l, (σ ++ l)[m.mid]? = some (.cells [intV m.made, .fn (.func 97) [] [.ptr m.nid 0, .ptr m.lid 0, .ptr m.tsid 0]] 147) := fun l => (st_old hlt).trans hp0
  refine CW.seqK fun K hK => CW.region ?_
  simp (maxDischargeDepth := 16) [symX, List.length_set]
  refine hK _ _ ?_; clear hK K
  refine CW.seqK fun K hK => ?_
  refine CW.seqK fun K1 hK1 => CW.draw (by kernel_rfl) ?_
  simp (maxDischargeDepth := 16) [symX, List.length_set, hps, Trm.tk, Trm.len]
  refine call_put m en t h0 (by simp only [nrmR, AV.nrm, Trm.nrm]) (hp.app _) (he.app _) hl (fun x hx => by rw [← hbx x hx]; exact hb) (by omega) ?_
  cases hf : en.find t with
  | some x =>
    rw [hbx x hf] at hR0 hb
    intro hac
    simp only [putR, st_setold hlt] at hac ⊢
    simp (maxDischargeDepth := 16) [symX, List.length_set, hac, Trm.put, Trm.len, Trm.tk]
    refine ⟨drawOk_sim [m.mid, σ.length, σ.length + 2] [.pure, .pure, .pure, .reads 0, .pure, .reads 1, .lcalls (fun i => i != 0), .pure, .pure, .pure, .news 2, .writes 2, .pure] (.cons (by simp; omega) (.cons (by simp) (.cons (by simp) .nil)))
      (.cons .pure (.cons .pure (.cons .pure (.cons (.reads 0 _ rfl) (.cons .pure (.cons (.reads 1 _ rfl) (.cons (.lcalls _ _ fun i a ha hi => ?_) (.cons .pure (.cons .pure (.cons .pure (.cons (.news 2 _ rfl) (.cons (.writes 2 _ rfl) (.cons .pure .nil))))))))))))) (by kernel_rfl), hK1 _ _ ?_⟩
    · match i with
      | 0 => cases hi
      | 1 => cases ha; simp [keptB_iff, symF]
      | 2 => cases ha; simp [keptB_iff, symF]
      | i + 3 => simp at ha
    refine CW.seqK fun K hK => CW.region ?_
    simp (maxDischargeDepth := 16) [symX, List.length_set]
    refine hK _ _ ?_; clear hK K
    refine CW.cond (t := true) (by simp [evx_tmp, symF, lk]) ?_
    refine CW.seqK fun K2 hK2 => CW.region ?_
    simp (maxDischargeDepth := 16) [symX, List.length_set, Trm.put, Trm.len, Trm.tk]
    refine hK2 _ _ (CW.ret (hR0 _ _ _ ⟨.agg x.cs, by simp [resultsA, omap, res_cell, symX, Trm.tk, Trm.len], ?_⟩))
    exact Fgt.wrote ⟨_, rfl⟩ hp.1 trivial (MkT.bel hp _) (frzN (by simp [AV.pln, Trm.pln]) (by simp [AV.nrm, Trm.nrm]))
  | none =>
    obtain ⟨k, nm, ng, dg, ks⟩ := t
    have hpt : en.put (.mk k nm ng dg ks) = .mk k nm ng dg (en.puts ks) := by rw [EnvT.put, hf]
    rw [hpt] at hR0 hb
    simp only [Trm.n] at hl hN
    simp only [Trm.cnt] at hb hR0
    have hlen := trmN_len ks
    intro hac
    simp only [putR, Trm.cs] at hac ⊢
    simp (maxDischargeDepth := 16) [symX, List.length_set, hac, kept_self]
    refine ⟨drawOk_sim [m.mid, σ.length, σ.length + 2] [.pure, .pure, .pure, .reads 0, .pure, .reads 1, .lcalls (fun _ => true), .pure, .pure, .pure, .news 2, .writes 2, .pure] (.cons (by simp; omega) (.cons (by simp) (.cons (by simp) .nil)))
      (.cons .pure (.cons .pure (.cons .pure (.cons (.reads 0 _ rfl) (.cons .pure (.cons (.reads 1 _ rfl) (.cons (.lcalls _ _ fun i a ha hi => rfl) (.cons .pure (.cons .pure (.cons .pure (.cons (.news 2 _ rfl) (.cons (.writes 2 _ rfl) (.cons .pure .nil))))))))))))) (by kernel_rfl), hK1 _ _ ?_⟩
    refine CW.seqK fun K hK => CW.region ?_
    simp (maxDischargeDepth := 16) [symX, List.length_set]
    refine hK _ _ ?_; clear hK K
    refine CW.cond (t := false) (by simp [evx_tmp, symF, lk]) ?_
    refine CW.skip (hK _ _ ?_); clear hK K hK1 K1
    refine CW.seqK fun K hK => CW.region ?_
    simp (maxDischargeDepth := 16) [symX, List.length_set]
    refine call_more m h1 rfl (hp.app _) (by omega) (by omega) ?_
    simp (maxDischargeDepth := 16) [symX, List.length_set, st_setold hlt]
    refine hK _ _ ?_; clear hK K
    refine CW.seqK fun K hK => CW.region ?_
    simp (maxDischargeDepth := 16) [symX, List.length_set]
    refine call_pure (Trm.mk k nm ng dg ks) h2 trm1_inj (by simp only [nrmR, AV.nrm, limR_nrm, trmR_nrm, Trm.cs]) (by simp only [Trm.n]; omega) (by simp only [Trm.n]; omega) fun _ => ?_
    simp only [Trm.bareC]
    simp (maxDischargeDepth := 16) [symX, List.length_set]
    refine hK _ _ ?_; clear hK K
    refine CW.seqK fun K hK => ?_
    refine CW.seqK fun K hK => CW.region ?_
    simp (maxDischargeDepth := 16) [symX, List.length_set]
    refine hK _ _ ?_; clear hK K
    refine CW.block (CW.hide fun R hR => ?_)
    refine CW.loopF (fun p : Nat × Tok × List AObj => [(0, .ptr m.mid 0), (4, .ptr (σ.length + 1) 0), (7, .ptr (σ.length + 3) 0), (29, .sl (trmR ks) .no), (30, intV ks.length), (31, intV p.1)])
      (fun p => σ.set m.mid (m.obj (1 + trmCs (en.puts (ks.take p.1)))) ++ (.cells [.lit (.int .u8 k), .lit (.string nm), .lit (.bool ng), .sl (limR dg) .no, .sl (trmR ks) .no] 54 :: .cells [.lit (.int .u8 0), .lit (.string ⟨#[]⟩), .lit (.bool false), .sl [] .full, .sl [] .full] 54 :: .cells [.lit (.int .u8 k), .lit (.string nm), .lit (.bool ng), .sl (limR dg) .no, .sl (trmR ks) .no] 54 :: .cells [.lit (.int .u8 k), .lit (.string nm), .lit (.bool ng), .sl (limR dg) .no, .sl (trmR (en.puts (ks.take p.1))) p.2.1] 54 :: p.2.2))
      (fun p => p.1 ≤ ks.length ∧ Apd (σ ++ [.dead, .dead, .dead, .dead]) 54 (p.1 * 5) p.2.1 p.2.2) (fun p => ks.length - p.1) (0, .full, []) ?_ ?_ ?_ ?_
    · simp [sub, lk]
    · simp [EnvT.puts, trmCs, trmR]
    · exact ⟨by simp, by simpa using Apd.nil _ _ []⟩
    rintro ⟨i, tok, g⟩ tm ⟨hi, hA⟩
    dsimp only at hi hA ⊢
    refine CW.hide fun R2 hR2 => CW.seqK fun K4 hK4 => CW.region ?_
    rcases Nat.lt_or_ge i ks.length with hlt2 | hge
    · have ha := trmR_get hlt2
      have hg := trmN_get hlt2
      have hti : (en.puts (ks.take i)).length = i := by rw [EnvT.puts_len]; exact List.length_take_of_le hi
      have hpk := EnvT.puts_take en hlt2
      have hcn := @EnvT.puts_le en ks (i + 1)
      rw [hpk, trmCs_app] at hcn
      simp only [trmCs, Nat.add_zero] at hcn
      have hset : ∀ (o o' : AObj) (L : Sto), (σ.set m.mid o ++ L).set m.mid o' = σ.set m.mid o' ++ L := fun o o' L => by rw [st_setold (by simpa using hlt), List.set_set]
      obtain ⟨tok', g', acc, hA', hap, hn1, hn2⟩ := apdN (P := Tryz.prog) (M := []) (σ := σ.set m.mid (m.obj (1 + trmCs (en.puts (ks.take i)) + (en.put ks[i]).cnt)) ++ [.cells [.lit (.int .u8 k), .lit (.string nm), .lit (.bool ng), .sl (limR dg) .no, .sl (trmR ks) .no] 54, .cells [.lit (.int .u8 0), .lit (.string ⟨#[]⟩), .lit (.bool false), .sl [] .full, .sl [] .full] 54, .cells [.lit (.int .u8 k), .lit (.string nm), .lit (.bool ng), .sl (limR dg) .no, .sl (trmR ks) .no] 54, .cells [.lit (.int .u8 k), .lit (.string nm), .lit (.bool ng), .sl (limR dg) .no, .sl (trmR (en.puts (ks.take i))) tok] 54])
        (t := 52) (e := 54) (k := 4) (by_ := 80) (trmR (en.puts (ks.take i))) [(en.put ks[i]).cs] (by rw [trmR_len, hti]; exact (hA.push [.cells ks[i].cs 54]).len (by simp)) (by kernel_rfl) (by kernel_rfl) (by kernel_rfl) (by kernel_rfl) (trmR_hd _) (by simp [(en.put ks[i]).len]) (by simp) (by simp only [trmR_len, hti, List.length_singleton]; omega) (by simp only [trmR_len, hti, List.length_singleton]; omega)
      simp only [List.append_assoc, List.cons_append, List.nil_append] at hap
      simp (maxDischargeDepth := 16) [symX, List.length_set, hlt2]
      refine hK4 _ _ ?_
      refine CW.seqK fun K3 hK3 => ?_
      refine CW.cond (t := true) (by simp [evx_tmp, symF, lk]) ?_
      refine CW.skip (hK3 _ _ ?_)
      refine CW.seqK fun K5 hK5 => CW.block ?_
      refine CW.seqK fun K hK => CW.region ?_
      simp (maxDischargeDepth := 16) [symX, List.length_set, ha, Trm.len, Trm.tk, Trm.put, set_last]
      refine hK _ _ ?_; clear hK K
      refine CW.draw (by kernel_rfl) ?_
      simp (maxDischargeDepth := 16) [symX, List.length_set, Trm.len, Trm.tk]
      have hup := hp.up (1 + trmCs (en.puts (ks.take i)))
      refine call_of (m.up (1 + trmCs (en.puts (ks.take i)))) en ks[i] h3 (by simp only [nrmR, AV.nrm, Trm.nrm]) (hup _) (he.up hp _ _ _) (by omega) (by show m.made + _ + _ ≤ _; omega) (by omega) ?_
      intro hac
      simp only [MkT.up_obj, hset] at hac ⊢
      simp (maxDischargeDepth := 16) [symX, List.length_set, Trm.len, Trm.tk, Trm.put, hac, hap, stripRows, Trm.stp]
      refine ⟨drawOk_keep ?_ (by kernel_rfl), hK5 _ _ ?_⟩
      · simp [hn1, hn2, keptB_iff, symF]
      refine CW.region ?_
      simp (maxDischargeDepth := 16) [symX, List.length_set, wrap_succ (show i ≤ 1000000000000 by omega)]
      have e1 : trmR (en.puts (ks.take (i + 1))) = trmR (en.puts (ks.take i)) ++ [(en.put ks[i]).cs] := by rw [hpk, trmR_app]; rfl
      have e2 : trmCs (en.puts (ks.take (i + 1))) = trmCs (en.puts (ks.take i)) + (en.put ks[i]).cnt := by rw [hpk, trmCs_app]; simp [trmCs]
      refine hR2 _ _ _ ⟨(i + 1, tok', g'), _, _, rfl, by simp [sub, lk], ?_, ⟨hlt2, ?_⟩, show ks.length - (i + 1) < ks.length - i by omega⟩
      · dsimp only
        rw [e1, e2, Nat.add_assoc]
      · simp only [trmR_len, hti, List.length_singleton] at hA'
        exact hA'.len (by simp)
    · simp (maxDischargeDepth := 16) [symX, List.length_set, Nat.not_lt.2 hge]
      refine hK4 _ _ ?_
      refine CW.seqK fun K3 hK3 => ?_
      refine CW.cond (t := false) (by simp [evx_tmp, symF, lk]) ?_
      refine CW.exit (hR2 _ _ _ (hR _ _ _ ?_))
      simp only [outOf, if_true, andThen]
      refine hK _ _ ?_
      rw [List.take_of_length_le hge]
      refine CW.seqK fun K hK => CW.region ?_
      simp (maxDischargeDepth := 16) [symX, List.length_set]
      refine hK _ _ ?_; clear hK K
      exact CW.ret (hR0 _ _ _ ⟨.agg [.lit (.int .u8 k), .lit (.string nm), .lit (.bool ng), .sl (limR dg) .no, .sl (trmR (en.puts ks)) tok], by simp [resultsA, omap, res_cell, symX], Fgt.wrote ⟨_, rfl⟩ hp.1 trivial (MkT.bel hp _) (frzN (by simp [AV.pln, plnR, trmR_pln]) (by simp [AV.nrm, nrmR, trmR_nrm, Trm.cs]))⟩)
end
section
open Go.RowKit
theorem pureRun_bind {P : Program} {α β : Type} : ∀ {m : Go.Sem α} {a : α} (f : α → Go.Sem β), pureRun P m = some (.inl a) → pureRun P (m.bind f) = pureRun P (f a)
 | .pure _, _, f, h => by simp [pureRun] at h; subst h; rfl
 | .program k, _, f, h => by rw [pureRun] at h; simpa [Sem.bind, pureRun] using pureRun_bind (m := k P) f h
 | .halt x, _, f, h => by cases x <;> simp [pureRun] at h
 | .load .., _, _, h | .store .., _, _, h | .new .., _, _, h | .shape .., _, _, h | .freeze .., _, _, h | .frozen .., _, _, h | .getObj .., _, _, h | .setObj .., _, _, h | .choose .., _, _, h | .sys .., _, _, h | .mark .., _, _, h => by simp [pureRun] at h
section
variable {P : Program} {M : List TypeId} {σ : Sto} {ρ : Operand → Option AV} {ds : Option Tmp} {ty : TypeId} {po : String} {af : Array Edge} {gu : Option (Nat × Bool)}
theorem es_min {x y : Operand} {ts : Array TypeId} {a b : Int} (hx : ρ x = some (.lit (.int .i64 a))) (hy : ρ y = some (.lit (.int .i64 b))) :
    evStep P M ρ σ ⟨ds, .call ⟨.builtin .min, #[x, y], ts⟩, ty, po, af, gu⟩ = some (.val (.lit (.int .i64 (if b < a then b else a))) σ .pure) := by
 have e : execOp (fun x => ((ρ x).bind conc).getD undef) ⟨ds, .call ⟨.builtin .min, #[x, y], ts⟩, ty, po, af, gu⟩ = Sem.pure (.value (.int .i64 (if b < a then b else a))) := by
  unfold execOp
  simp only [resolve, List.map_toArray, List.map_cons, List.map_nil, hx, hy, Option.bind_some, conc, conc2, Option.getD_some]
  rfl
 have hl : evLit P ρ σ ⟨ds, .call ⟨.builtin .min, #[x, y], ts⟩, ty, po, af, gu⟩ = some (.val (.lit (.int .i64 (if b < a then b else a))) σ .pure) := by
  unfold evLit
  dsimp only
  rw [e]
  have hall : ((Op.call ⟨.builtin .min, #[x, y], ts⟩).operands.all fun x => ((ρ x).bind conc).isSome) = true := by simp [Op.operands, Call.operands, hx, hy, conc, conc2]
  rw [if_pos hall]
  rfl
 unfold evStep
 rw [if_neg (by simp [mutOp]), hl]
 simp [evPure]
theorem es_nilNeq {t u : TypeId} {x : Operand} {ms : Array (String × TypeId)} (ht : P.underlying t = some (.interface ms)) (hx : ρ x = some (.lit .nilIface)) (hcy : ρ (.const .nilIface) = some (.lit .nilIface)) :
    evStep P M ρ σ ⟨ds, .binOp .neq t x (.const .nilIface) u, ty, po, af, gu⟩ = some (.val (.lit (.bool false)) σ .pure) := by
 have heq : ∀ k, pureRun P (Op.equalIn (k + 1) t .nilIface .nilIface) = some (.inl true) := by
  intro k
  rw [Op.equalIn]
  simp [underlying, program, ht, pureRun, bind, pure, Sem.bind]
 have hr : pureRun P (execOp (fun x => ((ρ x).bind conc).getD undef) ⟨ds, .binOp .neq t x (.const .nilIface) u, ty, po, af, gu⟩) = some (.inl (.value (.bool false))) := by
  unfold execOp
  simp only [hx, hcy, Option.bind_some, conc, conc2, Option.getD_some]
  unfold eqGuard Go.binOp Op.equal
  simp only [Op.maxDepth, bind, pure, Sem.bind]
  have h1 := heq 9999
  simp only [Sem.bind_assoc', Bool.or_true, if_true, ite_self]
  rw [pureRun_bind (a := ()) _ rfl]
  show pureRun P ((Op.equalIn (9999 + 1) t Value.nilIface Value.nilIface).bind _) = _
  rw [pureRun_bind _ h1]
  rfl
 have hl : evLit P ρ σ ⟨ds, .binOp .neq t x (.const .nilIface) u, ty, po, af, gu⟩ = some (.val (.lit (.bool false)) σ .pure) := by
  unfold evLit
  dsimp only
  rw [hr]
  have hall : ((Op.binOp BinOp.neq t x (.const .nilIface) u).operands.all fun x => ((ρ x).bind conc).isSome) = true := by simp [Op.operands, hx, hcy, conc, conc2]
  rw [if_pos hall]
  rfl
 rw [es_binOp]
 unfold evStepU
 rw [hl]
 simp [evPure, hx, hcy, binL]
end
end
section
open Go.RowKit

variable {S : Sp} {N : Nat}
structure SubT where
  mv : Nat
  tv : Nat
  m : MkT
  e : EnvT
  t : Trm
def SubT.At (s : SubT) (σ : Sto) : Prop := σ[s.mv]? = some (.cells [.ptr s.m.mid 0] 112) ∧ σ[s.tv]? = some (.cells s.t.cs 54) ∧ s.m.At σ ∧ s.e.At s.m σ ∧ s.t.n ≤ 1000000000 ∧ s.m.made + (s.e.put s.t).cnt ≤ 20000
theorem SubT.At.app {s : SubT} {σ : Sto} (h : s.At σ) (l : Sto) : s.At (σ ++ l) :=
  ⟨(st_old (List.getElem?_eq_some_iff.1 h.1).1).trans h.1, (st_old (List.getElem?_eq_some_iff.1 h.2.1).1).trans h.2.1, h.2.2.1.app l, h.2.2.2.1.app l, h.2.2.2.2⟩
theorem SubT.uniq {a b : SubT} {σ : Sto} (h1 : a.mv = b.mv) (h2 : a.tv = b.tv) (ha : a.At σ) (hb : b.At σ) : a = b := by
  obtain ⟨a1, a2, am, ae, at_⟩ := a; obtain ⟨b1, b2, bm, be, bt⟩ := b
  dsimp only at h1 h2
  subst h1 h2
  have e1 := ha.1.symm.trans hb.1
  have e2 := ha.2.1.symm.trans hb.2.1
  simp only [Option.some.injEq, AObj.cells.injEq, List.cons.injEq, AV.ptr.injEq, and_true] at e1 e2
  have := MkT.uniq e1 ha.2.2.1 hb.2.2.1
  subst this
  have := EnvT.uniq ha.2.2.2.1 hb.2.2.2.1
  subst this
  rw [Trm.inj e2]
abbrev SubT.st (s : SubT) (σ : Sto) : Sto := σ.set s.m.mid (s.m.obj (s.e.put s.t).cnt)
abbrev sub1F : FS := ⟨SubT, fun s => [.ptr s.mv 0, .ptr s.tv 0], fun s σ => s.At σ, fun s σ => (.ret (.agg (s.e.put s.t).cs), s.st σ), fun s => 16 * (trmN s.e.ts + s.t.n) + 6⟩
theorem sub1F_uniq : FS.uniq sub1F := fun a b σ e ha hb => by
  simp only [List.cons.injEq, AV.ptr.injEq, and_true] at e
  cases SubT.uniq e.1 e.2 ha hb
  rfl
set_option maxRecDepth 100000 in
theorem sub1_w (hc : S.code = codeP Tryz.prog) (hm : S.ms 58 = []) (h1 : S.sp 59 = some ofF) (s : SubT) (σ : Sto) (hp : s.At σ) (hN : 16 * (trmN s.e.ts + s.t.n) + 6 ≤ N) :
    JC Tryz.prog (S.E N) 58 [.ptr s.mv 0, .ptr s.tv 0] σ fun r σ' => Fgt σ r σ' (.ret (.agg (s.e.put s.t).cs)) (s.st σ) := by
  refine JC.startF (fn := Tryz.f58) (codeOf hc Tryz.func58 rfl (by kernel_rfl)) rfl hm rfl (Nat.le_of_ble_eq_true rfl) fun tm => ?_
  refine CW.hide fun R0 hR0 => ?_
  obtain ⟨g1, g2, g3, g4, g5, g6⟩ := hp
  have l1 := (List.getElem?_eq_some_iff.1 g1).1
  have l2 := (List.getElem?_eq_some_iff.1 g2).1
  refine CW.seqK fun K hK => CW.region ?_
  simp (maxDischargeDepth := 16) [symX, List.length_set]
  refine hK _ _ ?_; clear hK K
  refine CW.seqK fun K hK => CW.region ?_
  simp (maxDischargeDepth := 16) [symX, List.length_set, st_old l1, st_old l2, g1, g2, Trm.tk, Trm.len]
  refine call_of s.m s.e s.t h1 (by simp only [nrmR, AV.nrm, Trm.nrm]) (g3.app _) (g4.app _) g5 g6 (by omega) fun _ => ?_
  simp (maxDischargeDepth := 16) [symX, List.length_set, st_setold g3.lt, Trm.put, Trm.len]
  refine hK _ _ (CW.ret (hR0 _ _ _ ⟨.agg (s.e.put s.t).cs, by simp [resultsA, omap, res_cell, symX, Trm.tk, Trm.len], ?_⟩))
  exact Fgt.wrote ⟨_, rfl⟩ g3.1 trivial (MkT.bel g3 _) (frzN (by simp [AV.pln, Trm.pln]) (by simp [AV.nrm, Trm.nrm]))

abbrev triedF : FS := ⟨SubT, fun s => [.fn (.func 58) [] [.ptr s.mv 0, .ptr s.tv 0]], fun s σ => s.At σ, fun s σ => (.ret (.tup [.agg (s.e.put s.t).cs, .lit (.int .i64 0)]), s.st σ), fun s => 16 * (trmN s.e.ts + s.t.n) + 7⟩
theorem triedF_uniq : FS.uniq triedF := fun a b σ e ha hb => by
  simp only [List.cons.injEq, AV.fn.injEq, AV.ptr.injEq, and_true, true_and] at e
  cases SubT.uniq e.1 e.2 ha hb
  rfl
set_option maxRecDepth 100000 in
theorem tried_w (hc : S.code = codeP Tryz.prog) (hE : EnvOk Tryz.prog (S.E N)) (hm : S.ms 57 = []) (hm2 : S.ms 99 = []) (h1 : S.sp 58 = some sub1F) (s : SubT) (σ : Sto) (hp : s.At σ) (hN : 16 * (trmN s.e.ts + s.t.n) + 7 ≤ N) :
    FS.Ok Tryz.prog triedF 57 s σ := by
  refine defer_call (by kernel_rfl) hE (fn := Tryz.f57) (gn := Tryz.f99) (codeOf hc Tryz.func57 rfl (by kernel_rfl)) rfl (codeOf hc Tryz.func99 rfl (by kernel_rfl)) rfl (Nat.le_of_ble_eq_true rfl) (Nat.le_of_ble_eq_true rfl) ?_
  rw [num_fm (Nat.le_of_ble_eq_true rfl)]
  show JD _ (S.E N) (S.ms _) _ (fm 7 (num 0 [.fn (.func 58) [] [.ptr s.mv 0, .ptr s.tv 0]]) _) _ _
  rw [hm]
  have hp' := hp
  obtain ⟨g1, g2, g3, g4, g5, g6⟩ := hp'
  refine J.cw (CW.hide fun R hR => CW.region ?_)
  simp (maxDischargeDepth := 16) [symX, List.length_set]
  refine hR _ _ _ ⟨rfl, by rw [fm_len]; exact Nat.le_of_ble_eq_true rfl, [.ptr (σ.length + 1) 0, .ptr σ.length 0], by simp [omap, symX], ?_⟩
  show JD _ (S.E N) (S.ms _) _ _ _ _
  rw [hm, set_fm]
  simp only [pt]
  refine J.cw (CW.hide fun R2 hR2 => CW.seqK fun K hK => CW.region ?_)
  simp (maxDischargeDepth := 16) [symX, List.length_set]
  refine call_sp (s := sub1F) s h1 sub1F_uniq rfl (hp.app _) (by show 16 * _ + 6 < N; omega) ?_
  dsimp only [SubT.st]
  simp (maxDischargeDepth := 16) [symX, List.length_set, st_setold g3.lt, Trm.put, Trm.len]
  refine hK _ _ (CW.ret (hR2 _ _ _ ⟨_, rfl, ?_⟩))
  show JD _ (S.E N) (S.ms _) _ _ _ _
  rw [hm2, num_fm (Nat.le_of_ble_eq_true rfl)]
  simp only [set_fm, num, pt]
  have hif : Tryz.prog.underlying 20 = some (.interface #[]) := by kernel_rfl
  rw [show (Tryz.f99).ntmps = 17 from rfl]
  refine J.cw (CW.hide fun R3 hR3 => CW.seqK fun K hK => CW.region ?_)
  simp (maxDischargeDepth := 16) [symX, List.length_set, es_nilNeq hif]
  refine hK _ _ ?_
  refine CW.cond (t := false) (by simp [evx_tmp, symF, lk]) ?_
  refine CW.skip (hR3 _ _ _ ⟨.tup [], by simp [resultsA, omap], ⟨_, rfl⟩, .tup [.agg (s.e.put s.t).cs, .lit (.int .i64 0)], by simp [resultsA, omap, res_cell, symX, Trm.tk, Trm.len], ?_⟩)
  exact Fgt.wrote ⟨_, rfl⟩ g3.1 trivial (MkT.bel g3 _) (frzN (by simp [AV.pln, plnR, Trm.pln]) (by simp [AV.nrm, nrmR, Trm.nrm]))

def SubE.At (e : EnvT) (t : Trm) (σ : Sto) : Prop := σ[e.tid]? = some (.cells (trmR e.ts).flatten 54) ∧ e.names.length ≤ 1000000000 ∧ trmN e.ts ≤ 500000000 ∧ t.n ≤ 1000000000 ∧ (e.put t).cnt ≤ 20000
abbrev substF : FS := ⟨EnvT × Trm, fun p => [.agg p.2.cs, .sl (txtR p.1.names) .no, .asl p.1.tid 0 p.1.ts.length 5], fun p σ => SubE.At p.1 p.2 σ, fun p σ => (.ret (.tup [.agg (p.1.put p.2).cs, .lit (.int .i64 0)]), σ), fun p => 16 * (trmN p.1.ts + p.2.n) + 8⟩
theorem substF_uniq : FS.uniq substF := fun a b σ e ha hb => by
  obtain ⟨⟨an, ats, ai⟩, t⟩ := a; obtain ⟨⟨bn, bts, bi⟩, u⟩ := b
  simp only [List.cons.injEq, AV.agg.injEq, AV.sl.injEq, AV.asl.injEq, and_true, true_and] at e
  obtain ⟨e1, e2, rfl, _⟩ := e
  have e4 := ha.1.symm.trans hb.1
  simp only [Option.some.injEq, AObj.cells.injEq, and_true] at e4
  cases Trm.inj e1; cases txtR_inj e2; cases flat_inj e4
  rfl
theorem prim_none {f : FuncId} (h : S.sp f = none) (hb : S.base f = none) : (S.E N).prim f = none := by
  show (match S.sp f with | some s => some (relPrim (s.S N)) | none => S.base f) = _
  rw [h]; exact hb
set_option maxRecDepth 100000 in
set_option maxHeartbeats 1000000 in
theorem subst_w (hc : S.code = codeP Tryz.prog) (hm : S.ms 28 = []) (hm2 : S.ms 56 = []) (hn : S.sp 56 = none) (hnb : S.base 56 = none) (h1 : S.sp 57 = some triedF) (e : EnvT) (t : Trm) (σ : Sto) (hp : SubE.At e t σ) (hN : 16 * (trmN e.ts + t.n) + 8 ≤ N) :
    JC Tryz.prog (S.E N) 28 [.agg t.cs, .sl (txtR e.names) .no, .asl e.tid 0 e.ts.length 5] σ fun r σ' => Fgt σ r σ' (.ret (.tup [.agg (e.put t).cs, .lit (.int .i64 0)])) σ := by
  refine JC.startF (fn := Tryz.f28) (codeOf hc Tryz.func28 rfl (by kernel_rfl)) rfl hm rfl (Nat.le_of_ble_eq_true rfl) fun tm => ?_
  refine CW.hide fun R0 hR0 => ?_
  obtain ⟨g1, g2, g3, g4, g5⟩ := hp
  have l1 := (List.getElem?_eq_some_iff.1 g1).1
  refine CW.seqK fun K hK => CW.region ?_
  simp (maxDischargeDepth := 16) [symX, List.length_set]
  refine hK _ _ ?_; clear hK K
  refine CW.seqK fun K hK => CW.region ?_
  simp (maxDischargeDepth := 16) [symX, List.length_set]
  refine CallW.startF (fn := Tryz.f56) (M := []) (prim_none hn hnb) (codeOf hc Tryz.func56 rfl (by kernel_rfl)) rfl hm2 rfl (Nat.le_of_ble_eq_true rfl) fun tm => ?_
  refine CW.hide fun R1 hR1 => ?_
  have hmn : (if e.ts.length < e.names.length then (e.ts.length : Int) else e.names.length) = ((min e.names.length e.ts.length : Nat) : Int) := by split <;> omega
  refine CW.seqK fun K hK => CW.region ?_
  simp (maxDischargeDepth := 16) [symX, List.length_set]
  refine hK _ _ ?_; clear hK K
  refine CW.seqK fun K2 hK2 => CW.region ?_
  simp (maxDischargeDepth := 16) [symX, List.length_set, es_min, hmn]
  refine hK2 _ _ ?_; clear hK2 K2
  refine CW.seqK fun K hK => CW.region ?_
  simp (maxDischargeDepth := 16) [symX, List.length_set]
  refine hK _ _ ?_; clear hK K
  refine CW.ret (hR1 _ _ _ ⟨.ptr (σ.length + 5) 0, by simp [resultsA, omap, res_tmp, symF, lk], ?_⟩)
  simp (maxDischargeDepth := 16) [symX, List.length_set]
  refine hK _ _ ?_; clear hK K hR1 R1
  refine CW.seqK fun K hK => CW.region ?_
  simp (maxDischargeDepth := 16) [symX, List.length_set]
  refine call_sp (s := triedF) ⟨σ.length + 6, σ.length, ⟨σ.length + 5, σ.length + 4, σ.length + 2, σ.length + 3, 0⟩, e, t⟩ h1 triedF_uniq rfl ?_ (by show 16 * (trmN e.ts + t.n) + 7 < N; omega) ?_
  · refine ⟨by simp [symF], by simp [symF], ⟨by simp [symF, MkT.obj], by simp, by simp, by simp, by simp⟩, ⟨by simp [symF], by simp [symF], by simp [symF], by simp [st_old l1, g1], g2, g3⟩, g4, by show (0 : Int) + ((e.put t).cnt : Int) ≤ 20000; omega⟩
  dsimp only [SubT.st]
  simp (maxDischargeDepth := 16) [symX, List.length_set, Trm.put, Trm.len]
  refine hK _ _ (CW.ret (hR0 _ _ _ ⟨.tup [.agg (e.put t).cs, .lit (.int .i64 0)], by simp [resultsA, omap, res_cell, res_tmp, symX, Trm.tk, Trm.len], ?_⟩))
  exact done (by simp [AV.pln, plnR, Trm.pln]) (by simp [AV.nrm, nrmR, Trm.nrm])
end
section
open Go.RowKit

variable {S : Sp} {N : Nat}
abbrev copAF : FS := pureF (fun a : Atm => [.agg a.cs]) (fun a => .agg a.cs) Atm.n 1
theorem atm1_inj (a b : Atm) (e : [AV.agg a.cs] = [.agg b.cs]) : a = b := by simp only [List.cons.injEq, and_true, AV.agg.injEq] at e; exact Atm.inj e
set_option maxRecDepth 100000 in
theorem copA_w (hc : S.code = codeP Tryz.prog) (hm : S.ms 26 = []) (h1 : S.sp 55 = some limF) : PureOk Tryz.prog S N 26 (fun a : Atm => [.agg a.cs]) (fun a => .agg a.cs) Atm.n 1 := by
  intro a σ hl hN
  refine JC.startF (fn := Tryz.f26) (codeOf hc Tryz.func26 rfl (by kernel_rfl)) rfl hm rfl (Nat.le_of_ble_eq_true rfl) fun tm => ?_
  refine CW.hide fun R0 hR0 => ?_
  obtain ⟨k, nm, ng, dg, tr⟩ := a
  simp only [Atm.n] at hl hN
  simp only [Atm.cs]
  refine CW.seqK fun K hK => CW.region ?_
  simp (maxDischargeDepth := 16) [symX, List.length_set]
  refine hK _ _ ?_; clear hK K
  refine CW.seqK fun K hK => CW.region ?_
  simp (maxDischargeDepth := 16) [symX, List.length_set]
  refine call_pure dg h1 lim1_inj (by simp only [nrmR, AV.nrm, limR_nrm]) (by omega) (by omega) fun _ => ?_
  simp (maxDischargeDepth := 16) [symX, List.length_set]
  refine hK _ _ ?_; clear hK K
  refine CW.seqK fun K hK => CW.region ?_
  simp (maxDischargeDepth := 16) [symX, List.length_set]
  refine hK _ _ ?_; clear hK K
  exact CW.ret (hR0 _ _ _ ⟨.agg [.lit (.int .u8 k), .lit (.string nm), .lit (.bool ng), .sl (limR dg) .no, .lit (.bool tr)], by simp [resultsA, omap, res_cell, symX], done (by simp [AV.pln, plnR]) (by simp [AV.nrm, nrmR, Atm.cs])⟩)

structure A2 where
  nid : Nat
  nmid : Nat
  aid : Nat
  names : List ByteArray
  atoms : List Atm
abbrev A2.k (m : A2) : Nat := min m.names.length m.atoms.length
def A2.At (m : A2) (σ : Sto) : Prop := σ[m.nid]? = some (.cells [intV m.k] 3) ∧ σ[m.nmid]? = some (.cells [.sl (txtR m.names) .no] 35) ∧ σ[m.aid]? = some (.cells [.sl (atmR m.atoms) .no] 36) ∧ m.names.length ≤ 1000000000 ∧ atmN m.atoms ≤ 100000000
theorem A2.At.app {m : A2} {σ : Sto} (h : m.At σ) (l : Sto) : m.At (σ ++ l) := by
  obtain ⟨h1, h2, h3, h4⟩ := h
  exact ⟨(st_old (List.getElem?_eq_some_iff.1 h1).1).trans h1, (st_old (List.getElem?_eq_some_iff.1 h2).1).trans h2, (st_old (List.getElem?_eq_some_iff.1 h3).1).trans h3, h4⟩
theorem A2.uniq {a b : A2} {σ : Sto} (h1 : a.nid = b.nid) (h2 : a.nmid = b.nmid) (h3 : a.aid = b.aid) (ha : a.At σ) (hb : b.At σ) : a = b := by
  obtain ⟨a1, a2, a3, an, aa⟩ := a; obtain ⟨b1, b2, b3, bn, ba⟩ := b
  dsimp only at h1 h2 h3
  subst h1 h2 h3
  have e1 := ha.2.1.symm.trans hb.2.1
  have e2 := ha.2.2.1.symm.trans hb.2.2.1
  simp only [Option.some.injEq, AObj.cells.injEq, List.cons.injEq, AV.sl.injEq, and_true] at e1 e2
  rw [txtR_inj e1, atmR_inj e2]
def A2.put (m : A2) : Atm → Atm
  | .mk k nm ng dg tr => if k = 1 then (seek m.names m.atoms nm m.k).getD (.mk k nm ng dg tr) else .mk k nm ng dg tr
theorem A2.put_eq {m : A2} {k : Int} {nm : ByteArray} {ng : Bool} {dg : List Int} {tr : Bool} : m.put (.mk k nm ng dg tr) = if k = 1 then (seek m.names m.atoms nm m.k).getD (.mk k nm ng dg tr) else .mk k nm ng dg tr := rfl
abbrev sub2F : FS := ⟨A2 × Atm, fun p => [.agg p.2.cs, .ptr p.1.nid 0, .ptr p.1.nmid 0, .ptr p.1.aid 0], fun p σ => p.1.At σ ∧ p.2.n ≤ 1000000000, fun p σ => (.ret (.agg (p.1.put p.2).cs), σ), fun p => 16 * (atmN p.1.atoms + p.2.n) + 9⟩
theorem sub2F_uniq : FS.uniq sub2F := fun a b σ e ha hb => by
  obtain ⟨m, t⟩ := a; obtain ⟨m', t'⟩ := b
  simp only [List.cons.injEq, AV.ptr.injEq, AV.agg.injEq, and_true] at e
  cases A2.uniq e.2.1 e.2.2.1 e.2.2.2 ha.1 hb.1
  cases Atm.inj e.1
  rfl
set_option maxRecDepth 100000 in
set_option maxHeartbeats 1000000 in
theorem sub2_w (hc : S.code = codeP Tryz.prog) (hm : S.ms 25 = []) (h3 : S.sp 26 = some copAF) (m : A2) (t : Atm) (σ : Sto) (he : m.At σ) (hl : t.n ≤ 1000000000) (hN : 16 * (atmN m.atoms + t.n) + 9 ≤ N) :
    JC Tryz.prog (S.E N) 25 [.agg t.cs, .ptr m.nid 0, .ptr m.nmid 0, .ptr m.aid 0] σ fun r σ' => Fgt σ r σ' (.ret (.agg (m.put t).cs)) σ := by
  refine JC.startF (fn := Tryz.f25) (codeOf hc Tryz.func25 rfl (by kernel_rfl)) rfl hm rfl (Nat.le_of_ble_eq_true rfl) fun tm => ?_
  refine CW.hide fun R0 hR0 => ?_
  obtain ⟨k, nm, ng, dg, tr⟩ := t
  obtain ⟨g1, g2, g3, g5, g6⟩ := he
  have l1 := (List.getElem?_eq_some_iff.1 g1).1
  have l2 := (List.getElem?_eq_some_iff.1 g2).1
  have l3 := (List.getElem?_eq_some_iff.1 g3).1
  have htl := atmN_len m.atoms
  have hput := @A2.put_eq m k nm ng dg tr
  have hk1 : m.k ≤ m.names.length := Nat.min_le_left _ _
  have hk2 : m.k ≤ m.atoms.length := Nat.min_le_right _ _
  generalize hmin : m.k = n at g1 hput hk1 hk2
  have hn1 : n ≤ m.names.length := hk1
  have hn2 : n ≤ m.atoms.length := hk2
  have hwn : IntKind.i64.wrap ((n : Int) - 1) = (n : Int) - 1 := IntWalk.i64_in _ ⟨by omega, by omega⟩
  simp only [Atm.n] at hl hN
  simp only [Atm.cs]
  refine CW.seqK fun K hK => CW.region ?_
  simp (maxDischargeDepth := 16) [symX, List.length_set]
  refine hK _ _ ?_; clear hK K
  refine CW.seqK fun K hK => ?_
  refine CW.seqK fun K hK => CW.region ?_
  simp (maxDischargeDepth := 16) [symX, List.length_set, st_old l1, g1, hwn]
  refine hK _ _ ?_; clear hK K
  refine CW.block (CW.hide fun R hR => ?_)
  refine CW.loopF (fun j : Nat => [(1, .ptr m.nid 0), (2, .ptr m.nmid 0), (3, .ptr m.aid 0), (4, .ptr σ.length 0), (5, .ptr (σ.length + 1) 0), (6, intV ((j : Int) - 1))])
    (fun _ => σ ++ [.cells [.lit (.int .u8 k), .lit (.string nm), .lit (.bool ng), .sl (limR dg) .no, .lit (.bool tr)] 30, .cells [.lit (.int .u8 0), .lit (.string ⟨#[]⟩), .lit (.bool false), .sl [] .full, .lit (.bool false)] 30])
    (fun j => j ≤ n ∧ (k = 1 → seek m.names m.atoms nm n = seek m.names m.atoms nm j)) (fun j => j) n (by simp [sub, lk]) rfl ⟨Nat.le_refl _, fun _ => rfl⟩ ?_
  rintro j tm ⟨hj, hs⟩
  refine CW.hide fun R2 hR2 => CW.seqK fun K3 hK3 => CW.seqK fun K4 hK4 => CW.region ?_
  have out : m.put (.mk k nm ng dg tr) = .mk k nm ng dg tr → ∀ (fr : List (Nat × AV)) (tm : List AV), sub [(4, .ptr σ.length 0), (5, .ptr (σ.length + 1) 0)] fr → CW Tryz.prog (S.E N) [] (.exit 0) (fm 32 fr tm) (σ ++ [.cells [.lit (.int .u8 k), .lit (.string nm), .lit (.bool ng), .sl (limR dg) .no, .lit (.bool tr)] 30, .cells [.lit (.int .u8 0), .lit (.string ⟨#[]⟩), .lit (.bool false), .sl [] .full, .lit (.bool false)] 30]) (andThen K3 R2) := by
    intro hno fr tm hfr
    rw [fm_sub hfr]
    refine CW.exit (hR2 _ _ _ (hR _ _ _ ?_))
    simp only [outOf, if_true, andThen]
    refine hK _ _ ?_
    refine CW.seqK fun K hK => CW.region ?_
    simp (maxDischargeDepth := 16) [symX, List.length_set]
    refine call_pure (Atm.mk k nm ng dg tr) h3 atm1_inj (by simp only [nrmR, AV.nrm, limR_nrm, Atm.cs]) (by simp only [Atm.n]; omega) (by simp only [Atm.n]; omega) fun _ => ?_
    simp only [Atm.cs]
    simp (maxDischargeDepth := 16) [symX, List.length_set]
    refine hK _ _ (CW.ret (hR0 _ _ _ ⟨.agg [.lit (.int .u8 k), .lit (.string nm), .lit (.bool ng), .sl (limR dg) .no, .lit (.bool tr)], by simp [resultsA, omap, res_cell, res_tmp, symX], ?_⟩))
    rw [hno]
    exact done (by simp [AV.pln, plnR]) (by simp [AV.nrm, nrmR, Atm.cs])
  cases j with
  | zero =>
    simp (maxDischargeDepth := 16) [symX, List.length_set]
    refine hK4 _ _ ?_
    refine CW.cond (t := false) (by simp [evx_tmp, symF, lk]) ?_
    simp only [Bool.false_eq_true, if_false]
    refine out ?_ _ _ ?_
    · rw [hput]
      split
      · rename_i hk; rw [hs hk]; rfl
      · rfl
    · simp [sub, lk]
  | succ j =>
    have hjj : ((j + 1 : Nat) : Int) - 1 = (j : Int) := by omega
    simp only [hjj]
    rcases Classical.em (k = 1) with hk | hk
    · subst hk
      simp (maxDischargeDepth := 16) [symX, List.length_set]
      refine hK4 _ _ ?_
      refine CW.cond (t := true) (by simp [evx_tmp, symF, lk]) ?_
      refine CW.skip (hK3 _ _ ?_)
      refine CW.seqK fun K5 hK5 => CW.block ?_
      have hjn : j < m.names.length := by omega
      have hjt : j < m.atoms.length := by omega
      have ha := txtR_get hjn
      rcases Classical.em (m.names[j] = nm) with e | e
      · have hf : m.put (.mk 1 nm ng dg tr) = m.atoms[j] := by
          rw [hput, if_pos rfl, hs rfl, seek, if_pos (by rw [List.getElem?_eq_getElem hjn, e]), List.getElem?_eq_getElem hjt]
          rfl
        have hb := atmR_get hjt
        have htn := atmN_get hjt
        refine CW.seqK fun K hK => CW.draw (by kernel_rfl) ?_
        simp (maxDischargeDepth := 16) [symX, List.length_set, st_old l2, g2, ha, e]
        refine ⟨by kernel_rfl, hK _ _ ?_⟩; clear hK K
        refine CW.cond (t := true) (by simp [evx_tmp, symF, lk, e]) ?_
        refine CW.seqK fun K hK => CW.region ?_
        simp (maxDischargeDepth := 16) [symX, List.length_set, st_old l3, g3, hb, Atm.len, Atm.tk]
        refine call_pure m.atoms[j] h3 atm1_inj (by simp only [nrmR, AV.nrm, Atm.nrm]) (by omega) (by omega) fun _ => ?_
        simp (maxDischargeDepth := 16) [symX, List.length_set, Atm.put, Atm.len]
        refine hK _ _ ?_
        refine CW.ret (hR2 _ _ _ (hR _ _ _ (hR0 _ _ _ ⟨.agg m.atoms[j].cs, by simp [resultsA, omap, res_cell, res_tmp, symX, Atm.tk, Atm.len], ?_⟩)))
        rw [hf]
        exact done (by simp [AV.pln, Atm.pln]) (by simp [AV.nrm, Atm.nrm])
      · have e2 := eqb_ne e
        refine CW.seqK fun K hK => CW.draw (by kernel_rfl) ?_
        simp (maxDischargeDepth := 16) [symX, List.length_set, st_old l2, g2, ha, beqL, e2]
        refine ⟨by kernel_rfl, hK _ _ ?_⟩; clear hK K
        refine CW.cond (t := false) (by simp [evx_tmp, symF, lk, e2]) ?_
        refine CW.skip (hK5 _ _ ?_)
        have hwj : IntKind.i64.wrap ((j : Int) - 1) = (j : Int) - 1 := IntWalk.i64_in _ ⟨by omega, by omega⟩
        refine CW.region ?_
        simp (maxDischargeDepth := 16) [symX, List.length_set, hwj]
        refine hR2 _ _ _ ⟨j, _, _, rfl, by simp [sub, lk], rfl, ⟨by omega, fun h => ?_⟩, by omega⟩
        rw [hs h, seek, if_neg (by rw [List.getElem?_eq_getElem hjn]; simpa using e)]
    · simp (maxDischargeDepth := 16) [symX, List.length_set, hk]
      refine hK4 _ _ ?_
      refine CW.cond (t := false) (by simp [evx_tmp, symF, lk, hk]) ?_
      simp only [Bool.false_eq_true, if_false]
      refine out ?_ _ _ ?_
      · rw [hput, if_neg hk]
      · simp [sub, lk]

structure A3 where
  nmid : Nat
  lid : Nat
  e : EnvT
def A3.At (m : A3) (σ : Sto) : Prop := σ[m.nmid]? = some (.cells [.sl (txtR m.e.names) .no] 35) ∧ σ[m.lid]? = some (.cells [.asl m.e.tid 0 m.e.ts.length 5] 52) ∧ σ[m.e.tid]? = some (.cells (trmR m.e.ts).flatten 54) ∧ m.e.names.length ≤ 1000000000 ∧ trmN m.e.ts ≤ 500000000
theorem A3.At.app {m : A3} {σ : Sto} (h : m.At σ) (l : Sto) : m.At (σ ++ l) := by
  obtain ⟨h1, h2, h3, h4⟩ := h
  exact ⟨(st_old (List.getElem?_eq_some_iff.1 h1).1).trans h1, (st_old (List.getElem?_eq_some_iff.1 h2).1).trans h2, (st_old (List.getElem?_eq_some_iff.1 h3).1).trans h3, h4⟩
theorem A3.uniq {a b : A3} {σ : Sto} (h1 : a.nmid = b.nmid) (h2 : a.lid = b.lid) (ha : a.At σ) (hb : b.At σ) : a = b := by
  obtain ⟨a1, a2, ⟨an, ats, ai⟩⟩ := a; obtain ⟨b1, b2, ⟨bn, bts, bi⟩⟩ := b
  dsimp only at h1 h2
  subst h1 h2
  have e1 := ha.1.symm.trans hb.1
  have e2 := ha.2.1.symm.trans hb.2.1
  simp only [Option.some.injEq, AObj.cells.injEq, List.cons.injEq, AV.sl.injEq, AV.asl.injEq, and_true, true_and] at e1 e2
  obtain ⟨rfl, _⟩ := e2
  have e3 := ha.2.2.1.symm.trans hb.2.2.1
  simp only [Option.some.injEq, AObj.cells.injEq, and_true] at e3
  rw [txtR_inj e1, flat_inj e3]
abbrev sub3F : FS := ⟨A3 × Trm, fun p => [.agg p.2.cs, .ptr p.1.nmid 0, .ptr p.1.lid 0], fun p σ => p.1.At σ ∧ p.2.n ≤ 1000000000 ∧ (p.1.e.put p.2).cnt ≤ 20000, fun p σ => (.ret (.agg (p.1.e.put p.2).cs), σ), fun p => 16 * (trmN p.1.e.ts + p.2.n) + 9⟩
theorem sub3F_uniq : FS.uniq sub3F := fun a b σ e ha hb => by
  obtain ⟨m, t⟩ := a; obtain ⟨m', t'⟩ := b
  simp only [List.cons.injEq, AV.ptr.injEq, AV.agg.injEq, and_true] at e
  cases A3.uniq e.2.1 e.2.2 ha.1 hb.1
  cases Trm.inj e.1
  rfl
set_option maxRecDepth 100000 in
theorem sub3_w (hc : S.code = codeP Tryz.prog) (hm : S.ms 27 = []) (h1 : S.sp 28 = some substF) (m : A3) (t : Trm) (σ : Sto) (he : m.At σ) (hl : t.n ≤ 1000000000) (hb : (m.e.put t).cnt ≤ 20000) (hN : 16 * (trmN m.e.ts + t.n) + 9 ≤ N) :
    JC Tryz.prog (S.E N) 27 [.agg t.cs, .ptr m.nmid 0, .ptr m.lid 0] σ fun r σ' => Fgt σ r σ' (.ret (.agg (m.e.put t).cs)) σ := by
  refine JC.startF (fn := Tryz.f27) (codeOf hc Tryz.func27 rfl (by kernel_rfl)) rfl hm rfl (Nat.le_of_ble_eq_true rfl) fun tm => ?_
  refine CW.hide fun R0 hR0 => ?_
  obtain ⟨g1, g2, g3, g4, g5⟩ := he
  have l1 := (List.getElem?_eq_some_iff.1 g1).1
  have l2 := (List.getElem?_eq_some_iff.1 g2).1
  have l3 := (List.getElem?_eq_some_iff.1 g3).1
  refine CW.seqK fun K hK => CW.region ?_
  simp (maxDischargeDepth := 16) [symX, List.length_set]
  refine hK _ _ ?_; clear hK K
  refine CW.seqK fun K hK => CW.region ?_
  simp (maxDischargeDepth := 16) [symX, List.length_set, st_old l1, st_old l2, g1, g2, Trm.tk, Trm.len]
  refine call_sp (s := substF) (m.e, t) h1 substF_uniq (by simp only [nrmR, AV.nrm, Trm.nrm, txtR_nrm]) ⟨(st_old l3).trans g3, g4, g5, hl, hb⟩ (by show 16 * (trmN m.e.ts + t.n) + 8 < N; omega) ?_
  simp (maxDischargeDepth := 16) [symX, List.length_set, Trm.put, Trm.len]
  refine hK _ _ ?_; clear hK K
  refine CW.seqK fun K hK => ?_
  refine CW.seqK fun K hK => CW.region ?_
  simp (maxDischargeDepth := 16) [symX, List.length_set]
  refine hK _ _ ?_; clear hK K
  refine CW.cond (t := false) (by simp [evx_tmp, symF, lk]) ?_
  refine CW.skip (hK _ _ ?_); clear hK K
  refine CW.seqK fun K hK => CW.region ?_
  simp (maxDischargeDepth := 16) [symX, List.length_set, Trm.put, Trm.len, Trm.tk]
  refine hK _ _ (CW.ret (hR0 _ _ _ ⟨.agg (m.e.put t).cs, by simp [resultsA, omap, res_cell, symX, Trm.tk, Trm.len], ?_⟩))
  exact done (by simp [AV.pln, Trm.pln]) (by simp [AV.nrm, Trm.nrm])
end
end Go.Proofs.YtncoidmbmihliaaGreatDoor
