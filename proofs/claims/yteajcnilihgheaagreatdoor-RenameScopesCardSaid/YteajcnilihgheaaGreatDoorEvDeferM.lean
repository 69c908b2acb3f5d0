/-
 EV: A FUNCTION THAT DEFERS A CALL OF A FUNCTION LITERAL WHICH BEGINS BY recover().
-/
import Derived.Test.YteajcnilihgheaaGreatDoorEvSimM
import Derived.Test.YteajcnilihgheaaGreatDoorEvRangeM
import Derived.Recover
import Derived.Test.YteajcnilihgheaaGreatDoorKSameM
import Derived.Test.YteajcnilihgheaaGreatDoorDataM
namespace Go.Proofs.YteajcnilihgheaaGreatDoor
set_option maxRecDepth 100000
set_option maxHeartbeats 8000000
set_option linter.unusedSimpArgs false
set_option linter.unusedVariables false
section
open Go.RowKit
def recV : FrameMode → Value × FrameMode
 | .panicking ({ v, recovered := false, goexit := false } :: older) => (v, .panicking ({ v, recovered := true } :: older))
 | u => (.nilIface, u)
section
variable {P : Program} {E : Env} {Q : ARes → Sto → Prop}
theorem clos_sound (hm : P.follows .mixedOrders = true) (hE : EnvOk P E) {g : FuncId} {gn : Func} {id : Nat} {t5 t2 : Tmp} {y0 y1 : TypeId} {p0 p1 : String} {a0 a1 : Array Edge} {rest : Code} (hf : E.code g = some gn) (ht : t5 < gn.ntmps)
    (hb : gn.body = some (.seq (.region id #[⟨some t5, .call ⟨.builtin .recover, #[], #[]⟩, y0, p0, a0, none⟩, ⟨some t2, .assign (.tmp t5), y1, p1, a1, none⟩] false) rest))
    {args : List AV} {us : Array Value} {σ : Sto} {ι : List Nat} {Z : Nat → Nat → Prop} {w : World} {u : FrameMode} {dv : AV} (hM : Match σ ι Z w) (hl : args.length = us.size) (ha : ∀ (i : Nat) (d : AV) (x : Value), args[i]? = some d → us[i]? = some x → VR ι Z w d x) (hv : VR ι Z w dv (recV u).1)
    (h : JD P E (E.ms g) rest (((args ++ List.replicate (gn.ntmps - args.length) (AV.tup [])).set t5 dv).set t2 dv) σ (bodyW P gn Q)) :
    CallsD P g us u w fun e u' w' => u' = (recV u).2 ∧ ∃ r σ' ι' Z', Q r σ' ∧ Evo ι Z w ι' Z' w' ∧ Match σ' ι' Z' w' ∧ ERel ι' Z' w' r e := by
 obtain ⟨hP, _⟩ := hE.code g gn hf
 refine callsD_of_wpS hP hb fun c₀ cs hu => ?_
 refine wpS_seq (wpS_region ?_)
 show wpOpsS P _ _ [0, 1] _ _ _
 have o0 : (#[⟨some t5, .call ⟨.builtin .recover, #[], #[]⟩, y0, p0, a0, none⟩, ⟨some t2, .assign (.tmp t5), y1, p1, a1, none⟩] : Array Oper)[0]? = some ⟨some t5, .call ⟨.builtin .recover, #[], #[]⟩, y0, p0, a0, none⟩ := rfl
 have o1 : (#[⟨some t5, .call ⟨.builtin .recover, #[], #[]⟩, y0, p0, a0, none⟩, ⟨some t2, .assign (.tmp t5), y1, p1, a1, none⟩] : Array Oper)[1]? = some ⟨some t2, .assign (.tmp t5), y1, p1, a1, none⟩ := rfl
 generalize (#[⟨some t5, .call ⟨.builtin .recover, #[], #[]⟩, y0, p0, a0, none⟩, ⟨some t2, .assign (.tmp t5), y1, p1, a1, none⟩] : Array Oper) = ops at *
 have key : ∀ v cs', (recV u).1 = v → cs' = { c₀ with mode := (recV u).2 } :: cs →
     wpOpsS P ops (Exit.thenS (rest.wpS P (bodyPostS P gn c₀ cs fun e u' w' => u' = (recV u).2 ∧ ∃ r σ' ι' Z', Q r σ' ∧ Evo ι Z w ι' Z' w' ∧ Match σ' ι' Z' w' ∧ ERel ι' Z' w' r e)) (bodyPostS P gn c₀ cs fun e u' w' => u' = (recV u).2 ∧ ∃ r σ' ι' Z', Q r σ' ∧ Evo ι Z w ι' Z' w' ∧ Match σ' ι' Z' w' ∧ ERel ι' Z' w' r e)) [1]
      ((⟨us ++ Array.replicate (gn.ntmps - us.size) undef, []⟩ : Act).put (some t5) v) cs' w := by
  intro v cs' hv1 hcs
  subst hv1 hcs
  simp only [wpOpsS, o1]
  rw [if_pos (by rfl)]
  simp only [execOp, Oper.upon, Sem.run, pure]
  refine wpS_of_wp (J.tells hm hE h ι Z w _ hM ?_ _ ?_)
  · have h0 := FR.start hl ha gn.ntmps
    have hv' : VR ι Z w dv (((⟨us ++ Array.replicate (gn.ntmps - us.size) undef, []⟩ : Act).put (some t5) (recV u).1).eval (.tmp t5)) := by
     simp only [Act.put, Act.eval]
     have hlt : t5 < (us ++ Array.replicate (gn.ntmps - us.size) undef).size := by rw [Array.size_append, Array.size_replicate]; exact Nat.lt_of_lt_of_le ht (by omega)
     rw [show (((us ++ Array.replicate (gn.ntmps - us.size) undef).setIfInBounds t5 (recV u).1).getD t5 undef) = (recV u).1 by rw [Array.getD_eq_getD_getElem?, Array.getElem?_setIfInBounds_self_of_lt hlt]; rfl]
     exact hv
    exact (h0.set2 hv).set2 hv'
  · intro x tm' σ' e a' w' hq hx
    obtain ⟨ι', Z', hA, hxr⟩ := hx
    have hd : a'.defers = [] := hA.2.2.2.trans (by simp [Act.put])
    cases x with
    | normal =>
     cases hxr
     obtain ⟨v, hv, hQ⟩ := hq
     obtain ⟨y, g1, g2⟩ := results_rel hA.2.1 hA.2.2.1 hv
     exact ⟨hd, _, rfl, y, g1, rfl, .ret v, σ', ι', Z', hQ, hA.1, hA.2.1, y, rfl, g2⟩
    | ret =>
     cases hxr
     obtain ⟨v, hv, hQ⟩ := hq
     obtain ⟨y, g1, g2⟩ := results_rel hA.2.1 hA.2.2.1 hv
     exact ⟨hd, _, rfl, y, g1, rfl, .ret v, σ', ι', Z', hQ, hA.1, hA.2.1, y, rfl, g2⟩
    | pan v =>
     obtain ⟨y, rfl, hy⟩ := hxr
     exact ⟨hd, _, rfl, rfl, .pan v, σ', ι', Z', hq, hA.1, hA.2.1, y, rfl, hy⟩
    | exit i => exact hq.elim
 rw [wpOpsS]
 simp only [o0]
 rw [if_pos (by rfl)]
 have hrun : (execOp (Act.eval ⟨us ++ Array.replicate (gn.ntmps - us.size) undef, []⟩) ⟨some t5, .call ⟨.builtin .recover, #[], #[]⟩, y0, p0, a0, none⟩).run P w = .ok .recover w := rfl
 rw [hrun]
 subst hu
 cases hr : recoverD (c₀ :: cs) with
 | some q =>
  obtain ⟨v, cs'⟩ := q
  dsimp only
  refine key v cs' ?_ ?_
  all_goals
   simp only [recoverD] at hr
   split at hr
   · rename_i v' older hmode
     cases hr
     rw [hmode]; rfl
   · cases hr
 | none =>
  dsimp only
  have hrec : recV c₀.mode = (.nilIface, c₀.mode) := by
   simp only [recoverD] at hr
   split at hr
   · cases hr
   · rename_i hno
     unfold recV
     split
     · rename_i v older hmode; exact (hno _ _ hmode).elim
     · rfl
  exact key .nilIface _ (by rw [hrec]) (by rw [hrec])
def AfterD (P : Program) (E : Env) (fn gn : Func) (g : FuncId) (grest : Code) (t5 t2 : Tmp) (capv : List AV) (Q : ARes → Sto → Prop) (x : AExit) (tm : List AV) (σ : Sto) : Prop :=
 ∃ dv, (match x with | .ret => dv = .lit .nilIface | .pan v => dv = v | _ => False) ∧
  JD P E (E.ms g) grest (((capv ++ List.replicate (gn.ntmps - capv.length) (AV.tup [])).set t5 dv).set t2 dv) σ (bodyW P gn fun r σ' => (∃ v0, r = .ret v0) ∧ ∃ v, zA P fn tm σ' = some v ∧ Q (.ret v) σ')
end
end
section
open Go.RowKit
section
variable {P : Program} {M : List TypeId} {σ : Sto} {ρ : Operand → Option AV} {ds : Option Tmp} {ty : TypeId} {po : String} {af : Array Edge} {gu : Option (Nat × Bool)}
theorem es_min {x y : Operand} {ts : Array TypeId} {a b : Int} (hx : ρ x = some (.lit (.int .i64 a))) (hy : ρ y = some (.lit (.int .i64 b))) :
    evStep P M ρ σ ⟨ds, .call ⟨.builtin .min, #[x, y], ts⟩, ty, po, af, gu⟩ = some (.val (.lit (.int .i64 (if b < a then b else a))) σ .pure) := by
 have e : execOp (fun x => ((ρ x).bind conc).getD undef) ⟨ds, .call ⟨.builtin .min, #[x, y], ts⟩, ty, po, af, gu⟩ = Sem.pure (.value (.int .i64 (if b < a then b else a))) := by
  unfold execOp
  simp only [resolve, List.map_toArray, List.map_cons, List.map_nil, hx, hy, Option.bind_some, conc, conc2, Option.getD_some]
  rfl
 have hl : evLit P ρ σ ⟨ds, .call ⟨.builtin .min, #[x, y], ts⟩, ty, po, af, gu⟩ = some (.val (.lit (.int .i64 (if b < a then b else a))) σ .pure) := by
  unfold evLit
  dsimp only
  rw [e]
  have hall : ((Op.call ⟨.builtin .min, #[x, y], ts⟩).operands.all fun x => ((ρ x).bind conc).isSome) = true := by simp [Op.operands, Call.operands, hx, hy, conc, conc2]
  rw [if_pos hall]
  rfl
 unfold evStep
 rw [if_neg (by simp [mutOp]), hl]
 simp [evPure]
end
end
section
open Go.RowKit
theorem chunks_rows {k : Nat} : ∀ (es : List (List AV)), (∀ r ∈ es, r.length = k) → chunks k es.length es.flatten = es
 | [], _ => rfl
 | r :: es, h => by
  have h1 := h r List.mem_cons_self
  show chunks k (es.length + 1) (r ++ es.flatten) = _
  rw [chunks, List.take_left' h1, List.drop_left' h1, chunks_rows es fun x hx => h x (List.mem_cons_of_mem _ hx)]
theorem rows_len {k : Nat} : ∀ (es : List (List AV)), (∀ r ∈ es, r.length = k) → es.flatten.length = es.length * k
 | [], _ => by simp
 | r :: es, h => by
  have h1 := h r List.mem_cons_self
  rw [List.flatten_cons, List.length_append, rows_len es fun x hx => h x (List.mem_cons_of_mem _ hx), h1, List.length_cons, Nat.add_mul]; omega
def Held (σ : Sto) (e : TypeId) (k : Nat) (es : List (List AV)) (lv : AV) (d : Option Nat) : Prop :=
 (d = none ∧ lv = .sl [] .full ∧ es = []) ∨ ∃ id, d = some id ∧ lv = .asl id 0 es.length k ∧ σ[id]? = some (.cells es.flatten e)
def kill (d : Option Nat) (σ : Sto) : Sto := match d with | none => σ | some i => σ.set i .dead
theorem kill_len (d : Option Nat) (σ : Sto) : (kill d σ).length = σ.length := by cases d <;> simp [kill]
theorem Held.app {σ : Sto} {e : TypeId} {k : Nat} {es : List (List AV)} {lv : AV} {d : Option Nat} (h : Held σ e k es lv d) (l : Sto) : Held (σ ++ l) e k es lv d := by
 rcases h with h | ⟨i, h1, h2, h3⟩
 · exact .inl h
 · exact .inr ⟨i, h1, h2, (st_old (List.getElem?_eq_some_iff.1 h3).1).trans h3⟩
theorem apdM {P : Program} {σ : Sto} {t e : TypeId} {k by_ : Nat} {es : List (List AV)} {lv : AV} {d : Option Nat} (f : List AV) (yv : AV) (hr : rowsA σ (k + 1) yv = some [f]) (h : Held σ e (k + 1) es lv d) (hes : ∀ r ∈ es, r.length = k + 1) (hf : f.length = k + 1) (ht : P.underlying t = some (.slice e)) (hk : szOf P e = some (k + 1)) (hb : bytesOf P e = some by_) (hz : ((P.info? e).bind fun x => x.zero).map (fun z => z.cells.size) = some (k + 1)) (h1 : (es.length + 1) * by_ ≤ 140737488355328) (h2 : es.length + 1 ≤ 140737488355328) :
    ∀ (ρ : Operand → Option AV) (x y : Operand), ρ x = some lv → ρ y = some yv → evAppendM P ρ σ t x y = some (.val (.asl σ.length 0 (es.length + 1) (k + 1)) (kill d σ ++ [.cells (es.flatten ++ f) e]) (.grows d σ.length)) := by
 intro ρ x y hx hy
 rcases h with ⟨rfl, rfl, rfl⟩ | ⟨id, rfl, rfl, h3⟩
 · have hr0 : rowsA σ (k + 1) (.sl [] .full) = some [] := by simp [rowsA]
   simp only [List.length_nil, Nat.zero_add, Nat.one_mul] at h1
   simp [evAppendM, ht, hx, hy, hk, hb, hz, hr, hr0, kill] <;> omega
 · have hl := rows_len es hes
   have hr0 : rowsA σ (k + 1) (.asl id 0 es.length (k + 1)) = some es := by simp [rowsA, h3, hl, chunks_rows es hes]
   simp [evAppendM, ht, hx, hy, hk, hb, hz, hr, hr0, h3, kill] <;> omega
end
section
open Go.RowKit
abbrev copyF {α : Type} (A : α → AV) (n : α → Nat) (r : Nat) : FS := pureF (fun p : α => [A p]) (fun p => A p) (fun p => n p) r
theorem call_copy {P : Program} {S : Sp} {N r : Nat} {f : FuncId} {α : Type} {A : α → AV} {n : α → Nat} {args : List AV} {σ : Sto} {Q : ARes → Sto → Prop} (x : α) (h : S.sp f = some (copyF A n r)) (hi : ∀ a b : α, A a = A b → a = b) (ha : nrmR args = [A x]) (hb : n x ≤ 1000000000) (hN : 16 * n x + r < N)
    (hq : accW (S.E N) f args σ (.ret (A x)) σ = .lcalls (fun _ => true) → Q (.ret (A x)) σ) : CallW P (S.E N) f args σ Q :=
 call_pure x h (fun a b e => by
  simp only [List.cons.injEq, and_true] at e
  exact hi _ _ e) ha hb hN hq
abbrev CopyOk (S : Sp) (N : Nat) (f : FuncId) {α : Type} (A : α → AV) (n : α → Nat) (r : Nat) : Prop := ∀ (a : α) (σ : Sto), n a ≤ 1000000000 → 16 * n a + r ≤ N → JC Tryz.prog (S.E N) f [A a] σ fun r σ' => Fgt σ r σ' (.ret (A a)) σ
variable {S : Sp} {N : Nat}
theorem CopyLimbs_w (hc : S.code = codeP Tryz.prog) (hm : S.ms 163 = []) : CopyOk S N 163 (fun l => .sl (limR l) .no) List.length 0 := by
 intro a σ hl hN
 refine JC.startF (fn := Tryz.f163) (codeOf hc Tryz.func163 rfl (by kernel_rfl)) rfl hm rfl (zL rfl) fun tm => ?_
 refine CW.hide fun R0 hR0 => ?_
 refine CW.seqK fun K hK => CW.region ?_
 simp (maxDischargeDepth := 16) [zY]
 refine hK _ _ ?_; clear hK K
 refine CW.seqK fun K hK => CW.region ?_
 simp (maxDischargeDepth := 16) [zY]
 refine hK _ _ ?_; clear hK K
 refine CW.seqK fun K hK => CW.region ?_
 rcases Nat.eq_zero_or_pos a.length with h0 | h0
 · obtain rfl := List.eq_nil_of_length_eq_zero h0
   have hap := fun ρ ds ty po af gu x y hx hy => apd0 (P := Tryz.prog) (M := []) (σ := σ) (es := []) (tok := .full) (tk := .no) (t := 25) (e := 110) (k := 0) (by_ := 4) (ρ := ρ) (ds := ds) (ty := ty) (po := po) (af := af) (gu := gu) (x := x) (y := y) (by kernel_rfl) (by kernel_rfl) (by kernel_rfl) (by kernel_rfl) rfl (by simp) (by simp) hx hy
   simp (maxDischargeDepth := 16) [zY, limR, List.map_nil, hap]
   refine hK _ _ ?_
   exact CW.ret (hR0 _ _ _ ⟨.sl [] .full, by simp [zA, omap, zB, zF, lk], done0 rfl rfl⟩)
 · obtain ⟨tok', g', acc, hA', hap⟩ := apd (P := Tryz.prog) (M := []) (g := []) (t := 25) (e := 110) (k := 0) (by_ := 4) [] (limR a) (Apd.nil σ _ []) (by kernel_rfl) (by kernel_rfl) (by kernel_rfl) (by kernel_rfl) rfl (limR_hd a) (by rw [limR_len]; omega) (by simp; omega) (by simp; omega)
   simp only [List.append_nil] at hap
   simp (maxDischargeDepth := 16) [zY, hap, limR_stp]
   refine hK _ _ ?_
   refine CW.ret (hR0 _ _ _ ⟨.sl (limR a) tok', by simp [zA, omap, zB, zF, lk], done (by simp [AV.pln]) (by simp [AV.nrm])⟩)
theorem CopyInt_w (hc : S.code = codeP Tryz.prog) (hm : S.ms 136 = []) (h1 : S.sp 163 = some (copyF (fun l => .sl (limR l) .no) List.length 0)) : CopyOk S N 136 intA intN 1 := by
 intro a σ hl hN
 refine JC.startF (fn := Tryz.f136) (codeOf hc Tryz.func136 rfl (by kernel_rfl)) rfl hm rfl (zL rfl) fun tm => ?_
 refine CW.hide fun R0 hR0 => ?_
 obtain ⟨ng, dg⟩ := a
 simp only [intN] at hl hN
 simp only [intA]
 refine CW.seqK fun K hK => CW.region ?_
 simp (maxDischargeDepth := 16) [zY]
 refine hK _ _ ?_; clear hK K
 refine CW.seqK fun K hK => CW.region ?_
 simp (maxDischargeDepth := 16) [zY]
 refine call_copy (dg) h1 (sl_inj limR_inj) (by simp only [nrmR, AV.nrm, limR_nrm]) (by omega) (by omega) fun _ => ?_
 simp (maxDischargeDepth := 16) [zY, limR_nrm]
 refine hK _ _ ?_; clear hK K
 refine CW.seqK fun K hK => CW.region ?_
 simp (maxDischargeDepth := 16) [zY]
 refine hK _ _ ?_; clear hK K
 refine CW.ret (hR0 _ _ _ ⟨.agg [.lit (.bool ng), .sl (limR dg) .no], by simp [zA, omap, zC, zX], done (by simp [AV.pln, plnR, limR_pln, limR_nrm]) (by simp [AV.nrm, nrmR, limR_pln, limR_nrm])⟩)
theorem CopyAtom_w (hc : S.code = codeP Tryz.prog) (hm : S.ms 113 = []) (hI : S.sp 136 = some (copyF intA intN 1)) : CopyOk S N 113 (fun t : Atm => .agg t.cs) Atm.n 2 := by
 intro a σ hl hN
 refine JC.startF (fn := Tryz.f113) (codeOf hc Tryz.func113 rfl (by kernel_rfl)) rfl hm rfl (zL rfl) fun tm => ?_
 refine CW.hide fun R0 hR0 => ?_
 obtain ⟨k, nm, ng, dg, tr⟩ := a
 simp only [Atm.n] at hl hN
 simp only [Atm.cs]
 refine CW.seqK fun K hK => CW.region ?_
 simp (maxDischargeDepth := 16) [zY]
 refine hK _ _ ?_; clear hK K
 refine CW.seqK fun K hK => CW.region ?_
 simp (maxDischargeDepth := 16) [zY]
 refine call_copy ((ng, dg)) hI intA_inj (by simp only [nrmR, AV.nrm, limR_nrm]) (by simp only [intN]; omega) (by simp only [intN]; omega) fun _ => ?_
 simp (maxDischargeDepth := 16) [zY, limR_nrm]
 refine hK _ _ ?_; clear hK K
 refine CW.seqK fun K hK => CW.region ?_
 simp (maxDischargeDepth := 16) [zY]
 refine hK _ _ ?_; clear hK K
 refine CW.ret (hR0 _ _ _ ⟨.agg [.lit (.int .u8 k), .lit (.string nm), .lit (.bool ng), .sl (limR dg) .no, .lit (.bool tr)], by simp [zA, omap, zC, zX], done (by simp [AV.pln, plnR, limR_pln, limR_nrm]) (by simp [AV.nrm, nrmR, limR_pln, limR_nrm, Atm.cs])⟩)
theorem CopyTerm_w (hc : S.code = codeP Tryz.prog) (hm : S.ms 133 = []) (hI : S.sp 136 = some (copyF intA intN 1)) (h1 : S.sp 161 = some (copyF (fun l => .sl (trmR l) .no) trmN 3)) : CopyOk S N 133 (fun t : Trm => .agg t.cs) Trm.n 2 := by
 intro a σ hl hN
 refine JC.startF (fn := Tryz.f133) (codeOf hc Tryz.func133 rfl (by kernel_rfl)) rfl hm rfl (zL rfl) fun tm => ?_
 refine CW.hide fun R0 hR0 => ?_
 obtain ⟨k, nm, ng, dg, ks⟩ := a
 simp only [Trm.n] at hl hN
 simp only [Trm.cs]
 refine CW.seqK fun K hK => CW.region ?_
 simp (maxDischargeDepth := 16) [zY]
 refine hK _ _ ?_; clear hK K
 refine CW.seqK fun K hK => CW.region ?_
 simp (maxDischargeDepth := 16) [zY]
 refine call_copy ((ng, dg)) hI intA_inj (by simp only [nrmR, AV.nrm, limR_nrm]) (by simp only [intN]; omega) (by simp only [intN]; omega) fun _ => ?_
 simp (maxDischargeDepth := 16) [zY, limR_nrm]
 refine hK _ _ ?_; clear hK K
 refine CW.seqK fun K hK => CW.region ?_
 simp (maxDischargeDepth := 16) [zY]
 refine call_copy (ks) h1 (sl_inj trmR_inj) (by simp only [nrmR, AV.nrm, trmR_nrm]) (by omega) (by omega) fun _ => ?_
 simp (maxDischargeDepth := 16) [zY, trmR_nrm]
 refine hK _ _ ?_; clear hK K
 refine CW.seqK fun K hK => CW.region ?_
 simp (maxDischargeDepth := 16) [zY]
 refine hK _ _ ?_; clear hK K
 refine CW.ret (hR0 _ _ _ ⟨.agg [.lit (.int .u8 k), .lit (.string nm), .lit (.bool ng), .sl (limR dg) .no, .sl (trmR ks) .no], by simp [zA, omap, zC, zX], done (by simp [AV.pln, plnR, limR_pln, limR_nrm, trmR_nrm, trmR_pln]) (by simp [AV.nrm, nrmR, limR_pln, limR_nrm, trmR_nrm, trmR_pln, Trm.cs])⟩)
theorem Held.ren {σ : Sto} {e : TypeId} {k : Nat} {es : List (List AV)} {lv : AV} {d : Option Nat} (h : Held σ e k es lv d) : lv.one = true := by
 rcases h with ⟨_, rfl, _⟩ | ⟨i, _, rfl, _⟩ <;> rfl
theorem kill_app {d : Option Nat} {σ g l : Sto} (h : ∀ x, d = some x → σ.length ≤ x) : ∃ g', kill d (σ ++ g ++ l) = σ ++ g' := by
 cases d with
 | none => exact ⟨g ++ l, by simp [kill, List.append_assoc]⟩
 | some x => exact ⟨_, by show List.set _ _ _ = _; rw [List.append_assoc]; exact List.set_append_right _ _ (h x rfl)⟩
theorem CopyTerms_j (hc : S.code = codeP Tryz.prog) (hm : S.ms 161 = [28]) (h1 : S.sp 133 = some (copyF (fun t : Trm => .agg t.cs) Trm.n 2)) (a : List Trm) (σ : Sto) (hl : trmN a ≤ 1000000000) (hN : 16 * trmN a + 3 ≤ N) :
    JC Tryz.prog (S.E N) 161 [.sl (trmR a) .no] σ fun r σ' => ∃ lv d g, r = .ret lv ∧ Held σ' 30 5 (trmR a) lv d ∧ (∀ x, d = some x → σ.length ≤ x) ∧ σ' = σ ++ g := by
 refine JC.startF (fn := Tryz.f161) (codeOf hc Tryz.func161 rfl (by kernel_rfl)) rfl hm rfl (zL rfl) fun tm => ?_
 refine CW.hide fun R0 hR0 => ?_
 have hlen : a.length ≤ trmN a := trmN_len a
 refine CW.seqK fun K hK => CW.region ?_
 simp (maxDischargeDepth := 16) [zY]
 refine hK _ _ ?_; clear hK K
 refine CW.seqK fun K hK => CW.region ?_
 simp (maxDischargeDepth := 16) [zY]
 refine hK _ _ ?_; clear hK K
 refine CW.seqK fun K hK => ?_
 refine CW.seqK fun K hK => CW.region ?_
 simp (maxDischargeDepth := 16) [zY]
 refine hK _ _ ?_; clear hK K
 refine CW.block (CW.hide fun R hR => ?_)
 refine CW.loopF (fun p : Nat × AV × Option Nat × Sto => [(0, .sl (trmR a) .no), (3, p.2.1), (4, .lit (.int .i64 p.1))]) (fun p => p.2.2.2) (fun p => p.1 ≤ a.length ∧ Held p.2.2.2 30 5 (trmR (a.take p.1)) p.2.1 p.2.2.1 ∧ (∀ x, p.2.2.1 = some x → σ.length ≤ x) ∧ ∃ g, p.2.2.2 = σ ++ g) (fun p => a.length - p.1) (0, .sl [] .full, none, σ) (by simp [sub, lk, trmR]) rfl ⟨by simp, .inl ⟨rfl, rfl, by simp [trmR]⟩, by simp, [], by simp⟩ ?_
 rintro ⟨i, lv, d, τ⟩ tm ⟨hi, hH, hd, g, hg⟩
 dsimp only at hi hH hd hg ⊢
 refine CW.hide fun R2 hR2 => CW.seqK fun K3 hK3 => CW.seqK fun K4 hK4 => CW.region ?_
 rcases Nat.lt_or_ge i a.length with hlt | hge
 · have ha := trmR_get hlt
   have hgn := trmN_get hlt
   have hti : (a.take i).length = i := List.length_take_of_le hi
   have hrl : ∀ r ∈ trmR (a.take i), r.length = 5 := fun r hr => by rw [trmR_map] at hr; obtain ⟨x, _, rfl⟩ := List.mem_map.1 hr; exact x.len
   have hap := apdM (P := Tryz.prog) (σ := τ ++ [.cells a[i].cs 30, .cells a[i].cs 30]) (t := 28) (e := 30) (k := 4) (by_ := 80) (lv := lv) (d := d) a[i].cs (.asl (τ.length + 1) 0 1 5) (by simp [rowsA, chunks, a[i].len, a[i].tk]) (hH.app _) hrl a[i].len (by kernel_rfl) (by kernel_rfl) (by kernel_rfl) (by kernel_rfl) (by simp only [trmR_len, hti]; omega) (by simp only [trmR_len, hti]; omega)
   have hone := hH.ren
   have hHn : Held (kill d (τ ++ [.cells a[i].cs 30, .cells a[i].cs 30]) ++ [.cells ((trmR (a.take i)).flatten ++ a[i].cs) 30]) 30 5 (trmR (a.take (i + 1))) (.asl (τ.length + 2) 0 (i + 1) 5) (some (τ.length + 2)) := by
    have e : trmR (a.take (i + 1)) = trmR (a.take i) ++ [a[i].cs] := by rw [List.take_add_one, List.getElem?_eq_getElem hlt, trmR_app]; rfl
    refine .inr ⟨_, rfl, by rw [trmR_len, List.length_take_of_le hlt], ?_⟩
    rw [List.getElem?_append_right (by rw [kill_len]; simp), kill_len]
    simp [e]
   obtain ⟨g', hg'⟩ : ∃ g', kill d (τ ++ [AObj.cells a[i].cs 30, AObj.cells a[i].cs 30]) ++ [AObj.cells ((trmR (a.take i)).flatten ++ a[i].cs) 30] = σ ++ g' := by
    rw [hg]
    obtain ⟨q, hq⟩ := kill_app (g := g) (l := [AObj.cells a[i].cs 30, AObj.cells a[i].cs 30]) hd
    exact ⟨q ++ [AObj.cells ((trmR (a.take i)).flatten ++ a[i].cs) 30], by rw [hq, List.append_assoc]⟩
   have hσl : σ.length ≤ τ.length := by rw [hg]; simp
   rw [trmR_len, hti] at hap
   generalize hfin : kill d (τ ++ [.cells a[i].cs 30, .cells a[i].cs 30]) ++ [.cells ((trmR (a.take i)).flatten ++ a[i].cs) 30] = σf at hap hHn hg'
   have hap2 : ∀ (ρ : Operand → Option AV) (x y : Operand) (ds : Option Tmp) (ty : TypeId) (po : String) (af : Array Edge) (gu : Option (Nat × Bool)), ρ x = some lv → ρ y = some (.asl (τ.length + 1) 0 1 5) → evStep Tryz.prog [28] ρ (τ ++ [.cells a[i].cs 30, .cells a[i].cs 30]) ⟨ds, .call ⟨.builtin .append, #[x, y], #[28, 28]⟩, ty, po, af, gu⟩ = some (.val (.asl (τ.length + 2) 0 (i + 1) 5) σf (.grows d (τ.length + 2))) := fun ρ x y ds ty po af gu hx hy => by
    rw [es_appendM _ _ _ rfl, hap ρ x y hx hy]
    simp
   clear hap hH hrl
   generalize a[i] = t at *
   simp (maxDischargeDepth := 16) [zY, hlt]
   refine hK4 _ _ ?_
   refine CW.cond (t := true) (by simp [zT, zF, lk]) ?_
   refine CW.skip (hK3 _ _ ?_)
   refine CW.seqK fun K5 hK5 => CW.block ?_
   refine CW.seqK fun K hK => CW.region ?_
   simp (maxDischargeDepth := 16) [zY, ha, Trm.len, Trm.tk]
   refine call_copy t h1 (agg_inj Trm.inj) (by simp only [nrmR, AV.nrm, Trm.nrm]) (by omega) (by omega) fun _ => ?_
   simp (maxDischargeDepth := 16) [zY, Trm.put, Trm.len]
   refine hK _ _ ?_
   refine CW.region ?_
   simp (maxDischargeDepth := 16) [zY, Trm.len, Trm.tk, Trm.put, hap2, hone]
   refine hK5 _ _ ?_
   refine CW.region ?_
   simp (maxDischargeDepth := 16) [zY, wrap_succ (show i ≤ 1000000000000 by omega)]
   exact hR2 _ _ _ ⟨(i + 1, .asl (τ.length + 2) 0 (i + 1) 5, some (τ.length + 2), σf), _, _, rfl, by simp [sub, lk], rfl, ⟨hlt, hHn, fun x hx => by cases hx; omega, g', hg'⟩, show a.length - (i + 1) < a.length - i by omega⟩
 · obtain rfl : i = a.length := by omega
   rw [List.take_length] at hH
   simp (maxDischargeDepth := 16) [zY, Nat.not_lt.2 hge]
   refine hK4 _ _ ?_
   refine CW.cond (t := false) (by simp [zT, zF, lk]) ?_
   refine CW.exit (hR2 _ _ _ (hR _ _ _ ?_))
   simp only [outOf, if_true, andThen]
   refine hK _ _ ?_
   refine CW.seqK fun K hK => CW.region ?_
   simp (maxDischargeDepth := 16) [zY]
   refine hK _ _ ?_; clear hK K
   exact CW.ret (hR0 _ _ _ ⟨lv, by simp [zA, omap, zB, zF, lk], lv, d, g, rfl, hH, hd, hg⟩)
theorem Held.frz {σ g : Sto} {a : List Trm} {lv : AV} {d : Option Nat} (h : Held (σ ++ g) 30 5 (trmR a) lv d) (hd : ∀ x, d = some x → σ.length ≤ x) : Frz (σ ++ g) σ.length lv (.sl (trmR a) .no) := by
 rcases h with ⟨_, rfl, h⟩ | ⟨i, rfl, rfl, h⟩
 · rw [h]; exact Frz.nrm (v := .sl [] .full) rfl
 · have hrl : ∀ r ∈ trmR a, r.length = 5 := fun r hr => by rw [trmR_map] at hr; obtain ⟨x, _, rfl⟩ := List.mem_map.1 hr; exact x.len
   have hfl := (rows_flat fun i f hf => hrl f (List.mem_of_getElem? hf)).2
   refine .asl i 0 _ 5 _ _ _ (fun i j => ((trmR a).flatten[i * 5 + j]?).getD (.tup [])) h (hd i rfl) rfl (fun i f hf => hrl f (List.mem_of_getElem? hf)) (fun i j f d' hf hd' => ?_) fun i j f d' hf hd' => ?_
   · rw [Nat.zero_add, hfl i j f d' hf hd']; rfl
   · rw [hfl i j f d' hf hd']
     have h1 := trmR_nrm a
     have h2 := trmR_pln a
     rw [plnRR_iff] at h2
     have e1 : (nrmRR (trmR a))[i]? = some f := by rw [h1]; exact hf
     rw [nrmRR_map, List.getElem?_map, hf] at e1
     have e2 : f.map AV.nrm = f := by simpa [nrmR_map] using e1
     have e3 : d'.nrm = d' := by
      have : (f.map AV.nrm)[j]? = some d' := by rw [e2]; exact hd'
      rw [List.getElem?_map, hd'] at this
      exact Option.some.inj this
     have e4 := Frz.nrm (σ := σ ++ g) (n := σ.length) (v := d') ((plnR_iff f).1 (h2 f (List.mem_of_getElem? hf)) d' (List.mem_of_getElem? hd'))
     rw [e3] at e4
     exact e4
theorem CopyTerms_w (hc : S.code = codeP Tryz.prog) (hm : S.ms 161 = [28]) (h1 : S.sp 133 = some (copyF (fun t : Trm => .agg t.cs) Trm.n 2)) : CopyOk S N 161 (fun l => .sl (trmR l) .no) trmN 3 := fun a σ hl hN =>
 (CopyTerms_j hc hm h1 a σ hl hN).mono fun r σ' h => by
  obtain ⟨lv, d, g, rfl, hH, hd, rfl⟩ := h
  exact Fgt.pure ⟨g, rfl⟩ (hH.frz hd)
theorem CopyType_w (hc : S.code = codeP Tryz.prog) (hm : S.ms 111 = []) (h1 : S.sp 133 = some (copyF (fun t : Trm => .agg t.cs) Trm.n 2)) (h2 : S.sp 134 = some (copyF (fun l => .sl (prmR l) .no) prmN 6)) (h3 : S.sp 135 = some (copyF (fun l => .sl (tyR l) .no) tyN 6)) : CopyOk S N 111 (fun t : Ty => .agg t.cs) Ty.n 4 := by
 intro a σ hl hN
 refine JC.startF (fn := Tryz.f111) (codeOf hc Tryz.func111 rfl (by kernel_rfl)) rfl hm rfl (zL rfl) fun tm => ?_
 refine CW.hide fun R0 hR0 => ?_
 obtain ⟨fn, st, ⟨rfk, rfnm, rfng, rfdg, rfks⟩, ps, rs⟩ := a
 simp only [Ty.n] at hl hN
 simp only [Ty.cs]
 refine CW.seqK fun K hK => CW.region ?_
 simp (maxDischargeDepth := 16) [zY]
 refine hK _ _ ?_; clear hK K
 refine CW.seqK fun K hK => CW.region ?_
 simp (maxDischargeDepth := 16) [zY]
 refine call_copy (Trm.mk rfk rfnm rfng rfdg rfks) h1 (agg_inj Trm.inj) (by simp only [nrmR, AV.nrm, limR_nrm, trmR_nrm, Trm.cs]) (by simp only [Trm.n]; omega) (by simp only [Trm.n]; omega) fun _ => ?_
 simp (maxDischargeDepth := 16) [zY, limR_nrm, trmR_nrm, Trm.cs]
 refine hK _ _ ?_; clear hK K
 refine CW.seqK fun K hK => CW.region ?_
 simp (maxDischargeDepth := 16) [zY]
 refine call_copy (ps) h2 (sl_inj prmR_inj) (by simp only [nrmR, AV.nrm, prmR_nrm]) (by omega) (by omega) fun _ => ?_
 simp (maxDischargeDepth := 16) [zY, prmR_nrm]
 refine hK _ _ ?_; clear hK K
 refine CW.seqK fun K hK => CW.region ?_
 simp (maxDischargeDepth := 16) [zY]
 refine call_copy (rs) h3 (sl_inj tyR_inj) (by simp only [nrmR, AV.nrm, tyR_nrm]) (by omega) (by omega) fun _ => ?_
 simp (maxDischargeDepth := 16) [zY, tyR_nrm]
 refine hK _ _ ?_; clear hK K
 refine CW.seqK fun K hK => CW.region ?_
 simp (maxDischargeDepth := 16) [zY]
 refine hK _ _ ?_; clear hK K
 refine CW.ret (hR0 _ _ _ ⟨.agg [.lit (.bool fn), .lit (.string st), .lit (.int .u8 rfk), .lit (.string rfnm), .lit (.bool rfng), .sl (limR rfdg) .no, .sl (trmR rfks) .no, .sl (prmR ps) .no, .sl (tyR rs) .no], by simp [zA, omap, zC, zX], done (by simp [AV.pln, plnR, limR_pln, limR_nrm, trmR_nrm, trmR_pln, prmR_nrm, prmR_pln, tyR_nrm, tyR_pln]) (by simp [AV.nrm, nrmR, limR_pln, limR_nrm, trmR_nrm, trmR_pln, prmR_nrm, prmR_pln, tyR_nrm, tyR_pln, Ty.cs])⟩)
theorem CopyParam_w (hc : S.code = codeP Tryz.prog) (hm : S.ms 162 = []) (h1 : S.sp 111 = some (copyF (fun t : Ty => .agg t.cs) Ty.n 4)) : CopyOk S N 162 (fun t : Prm => .agg t.cs) Prm.n 5 := by
 intro a σ hl hN
 refine JC.startF (fn := Tryz.f162) (codeOf hc Tryz.func162 rfl (by kernel_rfl)) rfl hm rfl (zL rfl) fun tm => ?_
 refine CW.hide fun R0 hR0 => ?_
 obtain ⟨nm, ⟨tyfn, tyst, ⟨tyrfk, tyrfnm, tyrfng, tyrfdg, tyrfks⟩, typs, tyrs⟩⟩ := a
 simp only [Prm.n] at hl hN
 simp only [Prm.cs]
 refine CW.seqK fun K hK => CW.region ?_
 simp (maxDischargeDepth := 16) [zY]
 refine hK _ _ ?_; clear hK K
 refine CW.seqK fun K hK => CW.region ?_
 simp (maxDischargeDepth := 16) [zY]
 refine call_copy (Ty.mk tyfn tyst (Trm.mk tyrfk tyrfnm tyrfng tyrfdg tyrfks) typs tyrs) h1 (agg_inj Ty.inj) (by simp only [nrmR, AV.nrm, limR_nrm, trmR_nrm, prmR_nrm, tyR_nrm, Ty.cs]) (by simp only [Ty.n]; omega) (by simp only [Ty.n]; omega) fun _ => ?_
 simp (maxDischargeDepth := 16) [zY, limR_nrm, trmR_nrm, prmR_nrm, tyR_nrm, Ty.cs]
 refine hK _ _ ?_; clear hK K
 refine CW.seqK fun K hK => CW.region ?_
 simp (maxDischargeDepth := 16) [zY]
 refine hK _ _ ?_; clear hK K
 refine CW.ret (hR0 _ _ _ ⟨.agg [.lit (.string nm), .lit (.bool tyfn), .lit (.string tyst), .lit (.int .u8 tyrfk), .lit (.string tyrfnm), .lit (.bool tyrfng), .sl (limR tyrfdg) .no, .sl (trmR tyrfks) .no, .sl (prmR typs) .no, .sl (tyR tyrs) .no], by simp [zA, omap, zC, zX], done (by simp [AV.pln, plnR, limR_pln, limR_nrm, trmR_nrm, trmR_pln, prmR_nrm, prmR_pln, tyR_nrm, tyR_pln]) (by simp [AV.nrm, nrmR, limR_pln, limR_nrm, trmR_nrm, trmR_pln, prmR_nrm, prmR_pln, tyR_nrm, tyR_pln, Prm.cs])⟩)
theorem CopyTypes_w (hc : S.code = codeP Tryz.prog) (hm : S.ms 135 = []) (h1 : S.sp 111 = some (copyF (fun t : Ty => .agg t.cs) Ty.n 4)) : CopyOk S N 135 (fun l => .sl (tyR l) .no) tyN 6 := by
 intro a σ hl hN
 refine JC.startF (fn := Tryz.f135) (codeOf hc Tryz.func135 rfl (by kernel_rfl)) rfl hm rfl (zL rfl) fun tm => ?_
 refine CW.hide fun R0 hR0 => ?_
 have hlen : a.length ≤ tyN a := tyN_len a
 refine CW.seqK fun K hK => CW.region ?_
 simp (maxDischargeDepth := 16) [zY]
 refine hK _ _ ?_; clear hK K
 refine CW.seqK fun K hK => CW.region ?_
 simp (maxDischargeDepth := 16) [zY]
 refine hK _ _ ?_; clear hK K
 refine CW.seqK fun K hK => ?_
 refine CW.seqK fun K hK => CW.region ?_
 simp (maxDischargeDepth := 16) [zY]
 refine hK _ _ ?_; clear hK K
 refine CW.block (CW.hide fun R hR => ?_)
 refine CW.loopF (fun p : Nat × Tok × List AObj => [(0, .sl (tyR a) .no), (3, .sl (tyR (a.take p.1)) p.2.1), (4, .lit (.int .i64 p.1))]) (fun p => σ ++ p.2.2) (fun p => p.1 ≤ a.length ∧ Apd σ 34 (p.1 * 9) p.2.1 p.2.2) (fun p => a.length - p.1) (0, .full, []) (by simp [sub, lk, tyR]) (by simp) ⟨by simp, by simpa using Apd.nil σ _ []⟩ ?_
 rintro ⟨i, tok, g⟩ tm ⟨hi, hA⟩
 dsimp only at hi hA ⊢
 refine CW.hide fun R2 hR2 => CW.seqK fun K3 hK3 => CW.seqK fun K4 hK4 => CW.region ?_
 rcases Nat.lt_or_ge i a.length with hlt | hge
 · have ha := tyR_get hlt
   have hg := tyN_get hlt
   have hti : (a.take i).length = i := List.length_take_of_le hi
   obtain ⟨tok', g', acc, hA', hap⟩ := apd (P := Tryz.prog) (M := []) (t := 32) (e := 34) (k := 8) (by_ := 152) (tyR (a.take i)) [a[i].cs] (by rw [tyR_len, hti]; exact hA.push [.cells a[i].cs 34]) (by kernel_rfl) (by kernel_rfl) (by kernel_rfl) (by kernel_rfl) (tyR_hd _) (by simp [a[i].len]) (by simp) (by simp only [tyR_len, hti, List.length_singleton]; omega) (by simp only [tyR_len, hti, List.length_singleton]; omega)
   simp (maxDischargeDepth := 16) [zY, hlt]
   refine hK4 _ _ ?_
   refine CW.cond (t := true) (by simp [zT, zF, lk]) ?_
   refine CW.skip (hK3 _ _ ?_)
   refine CW.seqK fun K5 hK5 => CW.block ?_
   refine CW.seqK fun K hK => CW.region ?_
   simp (maxDischargeDepth := 16) [zY, ha, Ty.len, Ty.tk]
   refine call_copy a[i] h1 (agg_inj Ty.inj) (by simp only [nrmR, AV.nrm, Ty.nrm]) (by omega) (by omega) fun _ => ?_
   simp (maxDischargeDepth := 16) [zY, Ty.put, Ty.len]
   refine hK _ _ ?_
   refine CW.region ?_
   simp (maxDischargeDepth := 16) [zY, Ty.len, Ty.tk, Ty.put, hap]
   refine hK5 _ _ ?_
   refine CW.region ?_
   simp (maxDischargeDepth := 16) [zY, wrap_succ (show i ≤ 1000000000000 by omega)]
   refine hR2 _ _ _ ⟨(i + 1, tok', g'), _, _, rfl, ?_, rfl, ⟨hlt, ?_⟩, show a.length - (i + 1) < a.length - i by omega⟩
   · have e : tyR (a.take (i + 1)) = tyR (a.take i) ++ [a[i].cs] := by rw [List.take_add_one, List.getElem?_eq_getElem hlt, tyR_app]; rfl
     simp [sub, lk, e, stripRows, Ty.stp]
   · simpa only [tyR_len, hti, List.length_singleton] using hA'
 · simp (maxDischargeDepth := 16) [zY, Nat.not_lt.2 hge]
   refine hK4 _ _ ?_
   refine CW.cond (t := false) (by simp [zT, zF, lk]) ?_
   refine CW.exit (hR2 _ _ _ (hR _ _ _ ?_))
   simp only [outOf, if_true, andThen]
   refine hK _ _ ?_
   refine CW.seqK fun K hK => CW.region ?_
   simp (maxDischargeDepth := 16) [zY]
   refine hK _ _ ?_; clear hK K
   refine CW.ret (hR0 _ _ _ ⟨.sl (tyR (a.take i)) tok, by simp [zA, omap, zB, zF, lk], done (by simp [AV.pln, tyR_pln]) (by simp [AV.nrm, tyR_nrm, List.take_of_length_le hge])⟩)
theorem CopyParams_w (hc : S.code = codeP Tryz.prog) (hm : S.ms 134 = []) (h1 : S.sp 162 = some (copyF (fun t : Prm => .agg t.cs) Prm.n 5)) : CopyOk S N 134 (fun l => .sl (prmR l) .no) prmN 6 := by
 intro a σ hl hN
 refine JC.startF (fn := Tryz.f134) (codeOf hc Tryz.func134 rfl (by kernel_rfl)) rfl hm rfl (zL rfl) fun tm => ?_
 refine CW.hide fun R0 hR0 => ?_
 have hlen : a.length ≤ prmN a := prmN_len a
 refine CW.seqK fun K hK => CW.region ?_
 simp (maxDischargeDepth := 16) [zY]
 refine hK _ _ ?_; clear hK K
 refine CW.seqK fun K hK => CW.region ?_
 simp (maxDischargeDepth := 16) [zY]
 refine hK _ _ ?_; clear hK K
 refine CW.seqK fun K hK => ?_
 refine CW.seqK fun K hK => CW.region ?_
 simp (maxDischargeDepth := 16) [zY]
 refine hK _ _ ?_; clear hK K
 refine CW.block (CW.hide fun R hR => ?_)
 refine CW.loopF (fun p : Nat × Tok × List AObj => [(0, .sl (prmR a) .no), (3, .sl (prmR (a.take p.1)) p.2.1), (4, .lit (.int .i64 p.1))]) (fun p => σ ++ p.2.2) (fun p => p.1 ≤ a.length ∧ Apd σ 37 (p.1 * 10) p.2.1 p.2.2) (fun p => a.length - p.1) (0, .full, []) (by simp [sub, lk, prmR]) (by simp) ⟨by simp, by simpa using Apd.nil σ _ []⟩ ?_
 rintro ⟨i, tok, g⟩ tm ⟨hi, hA⟩
 dsimp only at hi hA ⊢
 refine CW.hide fun R2 hR2 => CW.seqK fun K3 hK3 => CW.seqK fun K4 hK4 => CW.region ?_
 rcases Nat.lt_or_ge i a.length with hlt | hge
 · have ha := prmR_get hlt
   have hg := prmN_get hlt
   have hti : (a.take i).length = i := List.length_take_of_le hi
   obtain ⟨tok', g', acc, hA', hap⟩ := apd (P := Tryz.prog) (M := []) (t := 31) (e := 37) (k := 9) (by_ := 168) (prmR (a.take i)) [a[i].cs] (by rw [prmR_len, hti]; exact hA.push [.cells a[i].cs 37]) (by kernel_rfl) (by kernel_rfl) (by kernel_rfl) (by kernel_rfl) (prmR_hd _) (by simp [a[i].len]) (by simp) (by simp only [prmR_len, hti, List.length_singleton]; omega) (by simp only [prmR_len, hti, List.length_singleton]; omega)
   simp (maxDischargeDepth := 16) [zY, hlt]
   refine hK4 _ _ ?_
   refine CW.cond (t := true) (by simp [zT, zF, lk]) ?_
   refine CW.skip (hK3 _ _ ?_)
   refine CW.seqK fun K5 hK5 => CW.block ?_
   refine CW.seqK fun K hK => CW.region ?_
   simp (maxDischargeDepth := 16) [zY, ha, Prm.len, Prm.tk]
   refine call_copy a[i] h1 (agg_inj Prm.inj) (by simp only [nrmR, AV.nrm, Prm.nrm]) (by omega) (by omega) fun _ => ?_
   simp (maxDischargeDepth := 16) [zY, Prm.put, Prm.len]
   refine hK _ _ ?_
   refine CW.region ?_
   simp (maxDischargeDepth := 16) [zY, Prm.len, Prm.tk, Prm.put, hap]
   refine hK5 _ _ ?_
   refine CW.region ?_
   simp (maxDischargeDepth := 16) [zY, wrap_succ (show i ≤ 1000000000000 by omega)]
   refine hR2 _ _ _ ⟨(i + 1, tok', g'), _, _, rfl, ?_, rfl, ⟨hlt, ?_⟩, show a.length - (i + 1) < a.length - i by omega⟩
   · have e : prmR (a.take (i + 1)) = prmR (a.take i) ++ [a[i].cs] := by rw [List.take_add_one, List.getElem?_eq_getElem hlt, prmR_app]; rfl
     simp [sub, lk, e, stripRows, Prm.stp]
   · simpa only [prmR_len, hti, List.length_singleton] using hA'
 · simp (maxDischargeDepth := 16) [zY, Nat.not_lt.2 hge]
   refine hK4 _ _ ?_
   refine CW.cond (t := false) (by simp [zT, zF, lk]) ?_
   refine CW.exit (hR2 _ _ _ (hR _ _ _ ?_))
   simp only [outOf, if_true, andThen]
   refine hK _ _ ?_
   refine CW.seqK fun K hK => CW.region ?_
   simp (maxDischargeDepth := 16) [zY]
   refine hK _ _ ?_; clear hK K
   refine CW.ret (hR0 _ _ _ ⟨.sl (prmR (a.take i)) tok, by simp [zA, omap, zB, zF, lk], done (by simp [AV.pln, prmR_pln]) (by simp [AV.nrm, prmR_nrm, List.take_of_length_le hge])⟩)
end
section
open Go.RowKit
abbrev vB : ByteArray := ⟨#[118]⟩
def Prm.nmOf : Prm → ByteArray
 | .mk nm _ => nm
structure NF where
 f : List ByteArray → ByteArray → ByteArray
 no : ∀ u s, f u s ∉ u
 nv : ∀ u s, f u s ≠ vB
abbrev Bnd := List (ByteArray × ByteArray)
def nowB : Bnd → ByteArray → ByteArray
 | [], s => s
 | p :: l, s => if p.1 = s then p.2 else nowB l s
def renA (l : Bnd) : Atm → Atm
 | .mk k nm ng dg tr => .mk k (if k = 1 then nowB l nm else nm) ng dg tr
mutual
def renT (l : Bnd) : Trm → Trm
 | .mk k nm ng dg ks => .mk k (if k = 1 ∧ nm ≠ vB then nowB l nm else nm) ng dg (renTs l ks)
def renTs (l : Bnd) : List Trm → List Trm
 | [] => []
 | t :: ts => renT l t :: renTs l ts
end
section
variable (F : NF)
mutual
def renY (l : Bnd) (u : List ByteArray) : Ty → Ty × List ByteArray
 | .mk fn st rf ps rs => if fn then (.mk fn st rf (renPs l u ps).1 (renYs (renPs l u ps).2.1 (renPs l u ps).2.2 rs).1, (renYs (renPs l u ps).2.1 (renPs l u ps).2.2 rs).2) else (.mk fn st (renT l rf) ps rs, u)
def renP (l : Bnd) (u : List ByteArray) : Prm → Prm × List ByteArray
 | .mk nm ty => (.mk (F.f u nm) (renY l (u ++ [F.f u nm]) ty).1, (renY l (u ++ [F.f u nm]) ty).2)
def renPs (l : Bnd) (u : List ByteArray) : List Prm → List Prm × Bnd × List ByteArray
 | [] => ([], l, u)
 | p :: ps => ((renP l u p).1 :: (renPs ((p.nmOf, (renP l u p).1.nmOf) :: l) (renP l u p).2 ps).1, (renPs ((p.nmOf, (renP l u p).1.nmOf) :: l) (renP l u p).2 ps).2)
def renYs (l : Bnd) (u : List ByteArray) : List Ty → List Ty × List ByteArray
 | [] => ([], u)
 | t :: ts => ((renY l u t).1 :: (renYs l (renY l u t).2 ts).1, (renYs l (renY l u t).2 ts).2)
end
def renNs (l : Bnd) (u : List ByteArray) : List ByteArray → List ByteArray × Bnd × List ByteArray
 | [] => ([], l, u)
 | n :: ns => (F.f u n :: (renNs ((n, F.f u n) :: l) (u ++ [F.f u n]) ns).1, (renNs ((n, F.f u n) :: l) (u ++ [F.f u n]) ns).2)
def letN (l : Bnd) (u : List ByteArray) (k : Int) (nm : ByteArray) : ByteArray × Bnd × List ByteArray := if k = 1 then (F.f u nm, (nm, F.f u nm) :: l, u ++ [F.f u nm]) else (nm, l, u)
mutual
def renE (l : Bnd) (u : List ByteArray) : Exp → Exp × List ByteArray
 | .mk k nm ty rh am ar bd =>
  let a := letN F l u k nm
  let b := renYs F l a.2.2 ty
  let c := renRs l b.2 rh
  let d := renEs a.2.1 c.2 bd
  let e := renMs l d.2 ar
  (.mk k a.1 b.1 c.1 (renA l am) e.1 d.1, e.2)
def renEs (l : Bnd) (u : List ByteArray) : List Exp → List Exp × List ByteArray
 | [] => ([], u)
 | x :: xs => ((renE l u x).1 :: (renEs l (renE l u x).2 xs).1, (renEs l (renE l u x).2 xs).2)
def renR (l : Bnd) (u : List ByteArray) : Rhs → Rhs × List ByteArray
 | .mk k nm ats ps rs bd ts =>
  let a := renPs F l u ps
  let b := renYs F a.2.1 a.2.2 rs
  let c := renEs a.2.1 b.2 bd
  (.mk k nm (ats.map (renA l)) a.1 b.1 c.1 (renTs l ts), c.2)
def renRs (l : Bnd) (u : List ByteArray) : List Rhs → List Rhs × List ByteArray
 | [] => ([], u)
 | x :: xs => ((renR l u x).1 :: (renRs l (renR l u x).2 xs).1, (renRs l (renR l u x).2 xs).2)
def renM (l : Bnd) (u : List ByteArray) : Arm → Arm × List ByteArray
 | .mk cn ns bd =>
  let a := renNs F l u ns
  let b := renEs a.2.1 a.2.2 bd
  (.mk cn a.1 b.1, b.2)
def renMs (l : Bnd) (u : List ByteArray) : List Arm → List Arm × List ByteArray
 | [] => ([], u)
 | x :: xs => ((renM l u x).1 :: (renMs l (renM l u x).2 xs).1, (renMs l (renM l u x).2 xs).2)
end
end
end
end Go.Proofs.YteajcnilihgheaaGreatDoor
